/- Contracts of the helpers of the first reference package. -/
import Derived.Test.YtpehnggglolnoaaProg
import Derived.Test.YtpehnggglolnoaaLib
import Derived.Lib.Hide
namespace Go.Proofs.Ytpehnggglolnoaa
open Go.RowKit

theorem Try.infoI : (Try.prog.info? 3).map (fun i => (i.zero, i.size, i.bytes)) = some (some (.int .i64 0), 1, 8) := by kernel_rfl
theorem Try.infoB : (Try.prog.info? 5).map (fun i => (i.zero, i.size, i.bytes)) = some (some (.int .u8 0), 1, 1) := by kernel_rfl

theorem Try.elI : Elem Try.prog 22 3 (.int .i64 0) 1 8 := ⟨Try.underlying22, Try.infoI, rfl, by decide, by decide⟩
theorem Try.elB : Elem Try.prog 49 5 (.int .u8 0) 1 1 := ⟨Try.underlying49, Try.infoB, rfl, by decide, by decide⟩

theorem ret_val {u v : Value} (h : u = v) : Ending.returned u = .returned v := by rw [h]

/-- Around: the remainder of n, or of -n - 1. -/
def around (n m : Int) : Int := (if n < 0 then -(n + 1) else n) % m
theorem around_lo (n m : Int) (hm : 1 ≤ m) : 0 ≤ around n m := Int.emod_nonneg _ (by omega)
theorem around_hi (n m : Int) (hm : 1 ≤ m) : around n m < m := Int.emod_lt_of_pos _ (by omega)

theorem around_any (n m : Int) (hm : 1 ≤ m) (hn : -9223372036854775808 ≤ n) (hn' : n ≤ 9223372036854775807) (hm' : m ≤ 9223372036854775807) (w : World) :
    Calls Try.prog 13 #[.int .i64 n, .int .i64 m] w fun e w' => e = .returned (.int .i64 (around n m)) ∧ w = w' := by
  unfold around
  go_enter Try.func13, Try.ntmps13
  go_wp2
  · go_ret
    have hlt : n < 0 := by assumption
    have e : -((n + 1).tmod m) = -(n + 1) % m := by rw [← Int.neg_tmod]; exact Int.tmod_eq_emod_of_nonneg (by omega)
    exact ⟨ret_val (congrArg (Value.int .i64) e), rfl⟩
  · go_ret
    exact ⟨rfl, rfl⟩

/-- The same, as a natural number. -/
theorem around_nat (n : Int) (m : Nat) (hm : 1 ≤ m) (hn : -9223372036854775808 ≤ n) (hn' : n ≤ 9223372036854775807) (hm' : m ≤ 9223372036854775807) (w : World) :
    Calls Try.prog 13 #[.int .i64 n, .int .i64 (m : Int)] w fun e w' => ∃ k : Nat, k < m ∧ Hid ((k : Int) = around n m) ∧ e = .returned (.int .i64 (k : Int)) ∧ w = w' :=
  (around_any n m (by omega) hn hn' (by omega) w).mono fun _ _ ⟨he, hw⟩ =>
    have h1 := around_lo n m (by omega)
    have h2 := around_hi n m (by omega)
    have h3 : (((around n m).toNat : Nat) : Int) = around n m := by omega
    ⟨(around n m).toNat, by omega, h3, by rw [h3]; exact he, hw⟩

/-- Few: a copy of the first elements, in new memory. -/
theorem few_any (v : Value) (xs : List UInt8) (n : Nat) (hn : n ≤ 1000) (w : World) (hv : Rv w v xs.length (xs.map vB)) :
    Calls Try.prog 24 #[v, .int .i64 n] w (RetMade w 5 ((xs.take n).map vB)) := by
  have hm := hv.len
  obtain ⟨ao, cap, rfl, hc, HY⟩ := hv.firsts (min n xs.length) (by omega)
  unfold maxLen at hm
  rw [show (xs.map vB).take (min n xs.length) = (xs.take n).map vB from by rw [List.map_take, ← List.length_map vB, ← List.take_eq_take_min]] at HY
  have hl : (xs.take n).length = min n xs.length := List.length_take
  have HL := Lib.hid hl
  clear hl
  go_enter Try.func24, Try.ntmps24
  go_wp2_with (at_builtin; refine wpList_app _ rfl _ _ rfl Try.elB w.heap.size (.slice none 0 0) 0 [] rfl (World.ownsRow_nil _ _ _ _) _ _ _ rfl (HY _ (by split <;> omega)) (by have := HL.out; rw [List.length_map]; split <;> omega) (ones_B _) (by split <;> omega) (Nat.le_refl _) ?_; intro v' w' hown hg _; clear HY)
  all_goals
    go_ret
    exact retMade hown (by simp) ((Below.refl _ _).grown hg (Nat.le_refl _) (fun k h => by cases h))

theorem few_some (v : Value) (xs : List UInt8) (n : Nat) (hn : n ≤ 1000) (w : World) (hv : Rv w v xs.length (xs.map vB)) :
    Calls Try.prog 24 #[v, .int .i64 n] w fun e w' => ∃ (v' : Value) (ys : List UInt8), Hid (ys = xs.take n) ∧ ys.length ≤ n ∧ e = .returned v' ∧ Made w w' 5 v' (ys.map vB) ∧ Rv w' v' ys.length (ys.map vB) :=
  (few_any v xs n hn w hv).mono fun _ _ ⟨v', he, hM⟩ => ⟨v', _, rfl, by simp; omega, he, hM, by have := hM.rv; rwa [List.length_map] at this⟩

end Go.Proofs.Ytpehnggglolnoaa
