/- Package disk: New, exists, fails, Used, On, Arm. -/
import Derived.Test.YtfdacckkdjpjhaaDskA
import Derived.BigQuiet
import Derived.Deep.QuietTactic
namespace Go.Proofs.Ytfdacckkdjpjhaa
open Go.RowKit

theorem exists_any (n : Int) (w : World) : Calls Try.prog 73 #[.int .i64 n] w fun e w' => e = .returned (.bool (decide (0 ≤ n ∧ n < 64))) ∧ w = w' := by
  go_enter Try.func73, Try.ntmps73
  by_cases h0 : 0 ≤ n
  · by_cases h1 : n < 64
    · have hd : decide (0 ≤ n ∧ n < 64) = true := decide_eq_true ⟨h0, h1⟩
      rw [hd]
      go_wp2_with fail
      go_ret
      exact ⟨rfl, rfl⟩
    · have hd : decide (0 ≤ n ∧ n < 64) = false := decide_eq_false (fun h => h1 h.2)
      rw [hd]
      go_wp2_with fail
      go_ret
      exact ⟨rfl, rfl⟩
  · have hd : decide (0 ≤ n ∧ n < 64) = false := decide_eq_false (fun h => h0 h.1)
    rw [hd]
    go_wp2_with fail
    go_ret
    exact ⟨rfl, rfl⟩
def Dk.failsB (D : Dk) : Bool := D.armed && decide (D.left = 0)
def Dk.fails (D : Dk) : Dk := if D.armed then (if 0 < D.left then { D with left := D.left - 1 } else { D with armed := false, off := true }) else D
/-- A change of the disk's own block. -/
def PStep (p : Nat) (w w' : World) : Prop := w'.os = w.os ∧ w'.tape = w.tape ∧ w'.output = w.output ∧ w.heap.size ≤ w'.heap.size ∧ ∀ k, k < w.heap.size → k ≠ p → w'.heap[k]? = w.heap[k]?
theorem PStep.refl (p : Nat) (w : World) : PStep p w w := ⟨rfl, rfl, rfl, Nat.le_refl _, fun _ _ _ => rfl⟩
theorem PStep.set {p : Nat} {w w' : World} (h : PStep p w w') (j : Nat) (x : Value) : PStep p w (w'.setCell ⟨p, j, none⟩ x) :=
  ⟨h.1, h.2.1, h.2.2.1, by rw [World.size_setCell]; exact h.2.2.2.1, fun k hk hp => (Below.heap_setCell _ _ _ _ hp).trans (h.2.2.2.2 k hk hp)⟩
theorem PStep.drew {p : Nat} {w w' : World} (h : PStep p w w') : PStep p w w'.drew := h
theorem PStep.drewN {p : Nat} {w w' : World} (h : PStep p w w') (n : Nat) : PStep p w (w'.drewN n) := h
theorem PStep.toD {p : Nat} {w w' : World} (h : PStep p w w') {X : Nat → Prop} (hX : X p) : DStep X X w w' := ⟨h.1, h.2.1, h.2.2.1, h.2.2.2.1, fun k hk hk2 => h.2.2.2.2 k hk (fun e => hk2 (by rw [e]; exact hX)), fun _ h => .inl h⟩
theorem setBlk {w : World} {p : Nat} {cs : Array Value} {T : TypeId} (h : w.heap[p]? = some (.cells cs T (0, 0))) (j : Nat) (x : Value) : (w.setCell ⟨p, j, none⟩ x).heap[p]? = some (.cells (cs.setIfInBounds j x) T (0, 0)) := by
  simp [World.setCell, Array.getElem?_modify, h]
section
variable {ex : Int → Prop} {p mb : Nat} {F : Int → Option Value} {ks : List Int} {X : Nat → Prop} {D : Dk}
set_option maxRecDepth 10000 in
theorem fails_any (w : World) (h : DiskX ex w p mb F ks X D) : Calls Try.prog 75 #[.pointer (some ⟨p, 0, none⟩)] w fun e w' => e = .returned (.bool D.failsB) ∧ DiskX ex w' p mb F ks X D.fails ∧ PStep p w w' := by
  have c4 := h.c4
  have c5 := h.c5
  have c3 := h.c3
  have fz := fun j => h.fz j
  have HH := Lib.hid h
  have hl := h.left
  clear h
  unfold Dk.failsB Dk.fails
  go_enter Try.func75, Try.ntmps75
  cases ha : D.armed
  · rw [ha] at c4
    go_wp2_with fail
    go_ret
    exact ⟨rfl, HH.out, PStep.refl _ _⟩
  · rw [ha] at c4
    by_cases hL : 0 < D.left
    · have hLi : (0 : Int) < (D.left : Int) := by omega
      have hw : wrap64 ((D.left : Int) - 1) = (D.left : Int) - 1 := by unfold wrap64; omega
      go_wp2_with fail
      go_ret
      have hne : ¬ D.left = 0 := by omega
      refine ⟨by simp [hne], ?_, (PStep.refl p w).set 5 _⟩
      refine HH.out.turn ?_ (by simp) (fun k _ hp => Below.heap_setCell _ _ _ _ hp) rfl rfl (by show D.left - 1 ≤ _; omega)
      have hb := HH.out.blk
      unfold dkO at hb
      have := setBlk hb 5 (.int .i64 ((D.left : Int) - 1))
      rw [ha] at this
      simp only [List.setIfInBounds_toArray, List.set_cons_succ, List.set_cons_zero] at this
      unfold dkO
      rw [show (((D.left - 1 : Nat) : Int)) = (D.left : Int) - 1 by omega]
      exact this
    · have hL0 : D.left = 0 := by omega
      have hLi : ¬ (0 : Int) < (D.left : Int) := by omega
      go_wp2_with fail
      go_ret
      refine ⟨by simp, ?_, ((PStep.refl p w).set 4 _).set 3 _⟩
      refine HH.out.turn ?_ (by simp) (fun k _ hp => (Below.heap_setCell _ _ _ _ hp).trans (Below.heap_setCell _ _ _ _ hp)) rfl rfl (by show (0 : Nat) ≤ _; omega)
      have hb := HH.out.blk
      unfold dkO at hb
      have := setBlk (setBlk hb 4 (.bool false)) 3 (.bool true)
      rw [hL0] at this
      simp only [List.setIfInBounds_toArray, List.set_cons_succ, List.set_cons_zero] at this
      unfold dkO
      exact this
def Dk.arm (D : Dk) (n : Int) : Dk := if D.off then D else { D with armed := decide (0 ≤ n), left := n.toNat }
end
theorem new_bad (room : Int) (hr : room < 0 ∨ 16777216 < room) (w : World) : Calls Try.prog 10 #[.int .i64 room] w fun e w' => e = .returned (.tuple #[.pointer none, .int .i64 1]) ∧ w' = w := by
  go_enter Try.func10, Try.ntmps10
  by_cases h0 : room < 0
  · go_wp2_with fail
    go_ret2
    exact ⟨rfl, rfl⟩
  · have h1 : 16777216 < room := by omega
    go_wp2_with fail
    go_ret2
    exact ⟨rfl, rfl⟩
theorem new_any (room : Int) (h0 : 0 ≤ room) (h1 : room ≤ 16777216) (w : World) : Calls Try.prog 10 #[.int .i64 room] w fun e w' => e = .returned (.tuple #[.pointer (some ⟨w.heap.size + 1, 0, none⟩), .int .i64 0]) ∧
    DiskAt w' (w.heap.size + 1) w.heap.size (fun _ => none) [] (fun b => b = w.heap.size ∨ b = w.heap.size + 1) (newD room) ∧ Below w.heap.size w w' := by
  have h2 : ¬ room < 0 := by omega
  have h3 : ¬ 16777216 < room := by omega
  have hmk := fun W : World => run_makeMap (P := Try.prog) 86 W
  go_enter Try.func10, Try.ntmps10
  go_wp2_with fail
  go_ret2
  have hb := World.alloc_heap_new (w.alloc (.map #[] 0)) (.cells #[.int .i64 room, .int .i64 0, .map (some w.heap.size), .bool false, .bool false, .int .i64 0] 88)
  rw [World.size_alloc] at hb
  have hu : (newD room).used = 0 := by
    show sumL (fun _ => 0) 64 = 0
    decide
  refine ⟨rfl, ⟨?_, (MapF.new w).kept (Below.heap_alloc _ _ _ (by simp)), by omega, .inr rfl, .inl rfl, fun _ _ => ⟨rfl, rfl⟩, fun k hk => absurd rfl hk, (fun _ _ _ _ h => by cases h), (fun _ _ _ _ _ _ _ _ _ _ h => by cases h), fun _ => Nat.le_refl _, ⟨h0, h1⟩, by rw [hu]; exact h0, (by show (0 : Nat) ≤ _; omega), fun b hb => by rcases hb with rfl | rfl <;> (simp only [World.size_alloc]; omega)⟩, ((Below.refl _ w).alloc (Nat.le_refl _) _).alloc (by simp) _⟩
  unfold dkO
  rw [hu]
  exact hb
end Go.Proofs.Ytfdacckkdjpjhaa
