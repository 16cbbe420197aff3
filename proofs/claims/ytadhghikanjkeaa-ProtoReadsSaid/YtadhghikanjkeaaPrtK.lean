/- The law's real and plain; the model's Pick. -/
import Derived.Test.YtadhghikanjkeaaPrtJ
import Derived.Test.YtadhghikanjkeaaRefA
namespace Go.Proofs.Ytadhghikanjkeaa
open Go.RowKit

def pickM (l : List Int) (i : Nat) (m : Nat) : Int := match l[i]? with | none => 0 | some x => around x m
theorem pickM_lo (l : List Int) (i m : Nat) (hm : 1 ≤ m) : 0 ≤ pickM l i m := by
  unfold pickM
  split
  · exact Int.le_refl 0
  · exact around_lo _ _ (by omega)
theorem pickM_hi (l : List Int) (i m : Nat) (hm : 1 ≤ m) : pickM l i m < m := by
  unfold pickM
  split
  · omega
  · exact around_hi _ _ (by omega)
/-- Integers of 64 bits. -/
def I64 (l : List Int) : Prop := ∀ x ∈ l, -9223372036854775808 ≤ x ∧ x ≤ 9223372036854775807

theorem pick_any (al : Option Addr) (cl : Nat) (l : List Int) (i m : Nat) (w : World) (hl : Rv w (.slice al l.length cl) l.length (l.map (Value.int .i64))) (h64 : I64 l) (hm : 1 ≤ m) (hm2 : m ≤ 9223372036854775807) (hi : i ≤ 9223372036854775807) :
    Calls Try.prog 32 #[.slice al l.length cl, .int .i64 (i : Int), .int .i64 (m : Int)] w fun e w' => e = .returned (.int .i64 (pickM l i m)) ∧ w = w' := by
  go_enter Try.func32, Try.ntmps32
  have h0 : ¬ (i : Int) < 0 := by omega
  by_cases hlt : i < l.length
  · have hlti : (i : Int) < (l.length : Int) := by omega
    have hnle : ¬ (l.length : Int) ≤ (i : Int) := by omega
    have hp : pickM l i m = around l[i] m := by unfold pickM; rw [List.getElem?_eq_getElem hlt]
    rw [hp]
    have hx := h64 l[i] (List.getElem_mem hlt)
    obtain ⟨g, off, rfl, hcell⟩ := hl.rd.cell (show (l.map (Value.int .i64))[i]? = some (.int .i64 l[i]) by rw [List.getElem?_map, List.getElem?_eq_getElem hlt]; rfl)
    clear hp
    generalize l[i] = x at *
    go_wp2_with fail
    refine (around_any x m (by omega) hx.1 hx.2 (by omega) _).mono ?_
    rintro e w1 ⟨rfl, rfl⟩
    go_wp2_with fail
    go_ret
    exact ⟨rfl, rfl⟩
  · have hle : (l.length : Int) ≤ (i : Int) := by omega
    have hp : pickM l i m = 0 := by unfold pickM; rw [List.getElem?_eq_none (by omega)]
    rw [hp]
    go_wp2_with fail
    go_ret
    exact ⟨rfl, rfl⟩

set_option maxRecDepth 20000 in
theorem real_any (m : Msg) (ab af : Option Addr) (cb cf : Nat) (w : World) :
    Calls Try.prog 11 #[msgV m ab af cb cf] w fun e w' => e = .returned (msgV m ab af cb cf) ∧ Below w.heap.size w w' := by
  unfold msgV
  go_enter Try.func11, Try.ntmps11
  go_wp2_with fail
  have hn := World.alloc_heap_new (w.alloc (.cells #[.int .i64 m.k, .int .i64 m.c, .int .i64 m.v, .int .i64 m.o, .slice ab m.body.length cb, .slice af m.fnd.length cf] 27)) (.cells #[.int .i64 m.k, .int .i64 m.c, .int .i64 m.v, .int .i64 m.o, .slice ab m.body.length cb, .slice af m.fnd.length cf] 33)
  rw [World.size_alloc] at hn
  refine bodyPost_ret (results_cell_row rfl _ _ (w.heap.size + 1) _ _ _ _ rfl hn rfl rfl rfl) rfl ?_
  exact ⟨rfl, ((Below.refl _ w).alloc (Nat.le_refl _) _).alloc (by simp) _⟩
set_option maxRecDepth 20000 in
theorem plain_any (m : Msg) (ab af : Option Addr) (cb cf : Nat) (w : World) :
    Calls Try.prog 17 #[msgV m ab af cb cf] w fun e w' => e = .returned (msgV m ab af cb cf) ∧ Below w.heap.size w w' := by
  unfold msgV
  go_enter Try.func17, Try.ntmps17
  go_wp2_with fail
  have hn := World.alloc_heap_new (w.alloc (.cells #[.int .i64 m.k, .int .i64 m.c, .int .i64 m.v, .int .i64 m.o, .slice ab m.body.length cb, .slice af m.fnd.length cf] 33)) (.cells #[.int .i64 m.k, .int .i64 m.c, .int .i64 m.v, .int .i64 m.o, .slice ab m.body.length cb, .slice af m.fnd.length cf] 27)
  rw [World.size_alloc] at hn
  refine bodyPost_ret (results_cell_row rfl _ _ (w.heap.size + 1) _ _ _ _ rfl hn rfl rfl rfl) rfl ?_
  exact ⟨rfl, ((Below.refl _ w).alloc (Nat.le_refl _) _).alloc (by simp) _⟩
theorem within_any (n lo hi : Int) (w : World) :
    Calls Try.prog 37 #[.int .i64 n, .int .i64 lo, .int .i64 hi] w fun e w' => e = .returned (.bool (inR n lo hi)) ∧ w = w' := by
  have hi2 : inR n lo hi = (decide (lo ≤ n) && decide (n ≤ hi)) := by rw [inR, Bool.decide_and]
  rw [hi2]
  clear hi2
  go_enter Try.func37, Try.ntmps37
  by_cases h1 : lo ≤ n <;> by_cases h2 : n ≤ hi
  all_goals
    simp only [h1, h2, decide_true, decide_false, Bool.and_true, Bool.and_false]
    go_wp2_with fail
    go_ret
    exact ⟨rfl, rfl⟩
end Go.Proofs.Ytadhghikanjkeaa
