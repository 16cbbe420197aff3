/- Contracts of the helpers of the first reference package. -/
import Derived.Test.YtmofakcpldbbmaaDoorProg
import Derived.Test.YtmofakcpldbbmaaDoorLib
import Derived.Lib.Hide
namespace Go.Proofs.YtmofakcpldbbmaaDoor
open Go.RowKit

theorem Tryd.infoI : (Tryd.prog.info? 3).map (fun i => (i.zero, i.size, i.bytes)) = some (some (.int .i64 0), 1, 8) := by kernel_rfl
theorem Tryd.infoB : (Tryd.prog.info? 5).map (fun i => (i.zero, i.size, i.bytes)) = some (some (.int .u8 0), 1, 1) := by kernel_rfl

theorem Tryd.elI : Elem Tryd.prog 22 3 (.int .i64 0) 1 8 := ⟨Tryd.underlying22, Tryd.infoI, rfl, by decide, by decide⟩
theorem Tryd.elB : Elem Tryd.prog 28 5 (.int .u8 0) 1 1 := ⟨Tryd.underlying28, Tryd.infoB, rfl, by decide, by decide⟩

theorem ret_val {u v : Value} (h : u = v) : Ending.returned u = .returned v := by rw [h]

/-- Around: the remainder of n, or of -n - 1. -/
def around (n m : Int) : Int := (if n < 0 then -(n + 1) else n) % m
theorem around_lo (n m : Int) (hm : 1 ≤ m) : 0 ≤ around n m := Int.emod_nonneg _ (by omega)
theorem around_hi (n m : Int) (hm : 1 ≤ m) : around n m < m := Int.emod_lt_of_pos _ (by omega)

theorem around_any (n m : Int) (hm : 1 ≤ m) (hn : -9223372036854775808 ≤ n) (hn' : n ≤ 9223372036854775807) (hm' : m ≤ 9223372036854775807) (w : World) :
    Calls Tryd.prog 7 #[.int .i64 n, .int .i64 m] w fun e w' => e = .returned (.int .i64 (around n m)) ∧ w = w' := by
  unfold around
  go_enter Tryd.func7, Tryd.ntmps7
  go_wp2
  · go_ret
    have hlt : n < 0 := by assumption
    have e : -((n + 1).tmod m) = -(n + 1) % m := by rw [← Int.neg_tmod]; exact Int.tmod_eq_emod_of_nonneg (by omega)
    exact ⟨ret_val (congrArg (Value.int .i64) e), rfl⟩
  · go_ret
    exact ⟨rfl, rfl⟩

/-- The same, as a natural number. -/
theorem around_nat (n : Int) (m : Nat) (hm : 1 ≤ m) (hn : -9223372036854775808 ≤ n) (hn' : n ≤ 9223372036854775807) (hm' : m ≤ 9223372036854775807) (w : World) :
    Calls Tryd.prog 7 #[.int .i64 n, .int .i64 (m : Int)] w fun e w' => ∃ k : Nat, k < m ∧ Hid ((k : Int) = around n m) ∧ e = .returned (.int .i64 (k : Int)) ∧ w = w' :=
  (around_any n m (by omega) hn hn' (by omega) w).mono fun _ _ ⟨he, hw⟩ =>
    have h1 := around_lo n m (by omega)
    have h2 := around_hi n m (by omega)
    have h3 : (((around n m).toNat : Nat) : Int) = around n m := by omega
    ⟨(around n m).toNat, by omega, h3, by rw [h3]; exact he, hw⟩

/-- Ints: a copy of the first elements, in new memory. -/
theorem ints_any (v : Value) (xs : List Int) (n : Nat) (hn : n ≤ 1000) (w : World) (hv : Rv w v xs.length (xs.map (Value.int .i64))) :
    Calls Tryd.prog 11 #[v, .int .i64 n] w (RetMade w 3 ((xs.take n).map (Value.int .i64))) := by
  have hm := hv.len
  obtain ⟨ao, cap, rfl, hc, HY⟩ := hv.firsts (min n xs.length) (by omega)
  unfold maxLen at hm
  rw [show (xs.map (Value.int .i64)).take (min n xs.length) = (xs.take n).map (Value.int .i64) from by rw [List.map_take, ← List.length_map (Value.int .i64), ← List.take_eq_take_min]] at HY
  have hl : (xs.take n).length = min n xs.length := List.length_take
  have HL := Lib.hid hl
  clear hl
  go_enter Tryd.func11, Tryd.ntmps11
  go_wp2_with (at_builtin; refine wpList_app _ rfl _ _ rfl Tryd.elI w.heap.size (.slice none 0 0) 0 [] rfl (World.ownsRow_nil _ _ _ _) _ _ _ rfl (HY _ (by split <;> omega)) (by have := HL.out; rw [List.length_map]; split <;> omega) (ones_I _) (by split <;> omega) (Nat.le_refl _) ?_; intro v' w' hown hg _; clear HY)
  all_goals
    go_ret
    exact retMade hown (by simp) ((Below.refl _ _).grown hg (Nat.le_refl _) (fun k h => by cases h))

theorem ints_some (v : Value) (xs : List Int) (n : Nat) (hn : n ≤ 1000) (w : World) (hv : Rv w v xs.length (xs.map (Value.int .i64))) :
    Calls Tryd.prog 11 #[v, .int .i64 n] w fun e w' => ∃ (v' : Value) (ys : List Int), Hid (ys = xs.take n) ∧ ys.length ≤ n ∧ e = .returned v' ∧ Made w w' 3 v' (ys.map (Value.int .i64)) ∧ Rv w' v' ys.length (ys.map (Value.int .i64)) :=
  (ints_any v xs n hn w hv).mono fun _ _ ⟨v', he, hM⟩ => ⟨v', _, rfl, by simp; omega, he, hM, by have := hM.rv; rwa [List.length_map] at this⟩

end Go.Proofs.YtmofakcpldbbmaaDoor
