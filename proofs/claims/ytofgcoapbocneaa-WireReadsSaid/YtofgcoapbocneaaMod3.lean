/- rexmillref02.Reader: Int, Bool, length, End. -/
import Derived.Test.YtofgcoapbocneaaMod2
namespace Go.Proofs.Ytofgcoapbocneaa
open Go.RowKit

theorem mint_any (b D : Nat) (hD : D ≤ b) (s : RS) (w : World) (h : Mst w b D s) :
    Calls Try.prog 49 #[.pointer (some ⟨b, 0, none⟩)] w (MPost w b D (rdI s).2 (.int .i64 (rdI s).1)) := by
  have hb := rdU_bound s
  have HB := Lib.hid hb
  clear hb
  go_enter Try.func49, Try.ntmps49
  go_wp2_with fail
  refine (muint_any b D hD s w h).mono ?_
  rintro e w1 ⟨rfl, T1, S1⟩
  go_wp2_with fail
  refine (eback_any (rdU s).1 _ HB.out).mono ?_
  rintro e w2 ⟨rfl, rfl⟩
  go_wp2_with fail
  go_ret
  exact ⟨rfl, T1, S1⟩

set_option maxHeartbeats 1000000 in
theorem mend_any (b D : Nat) (s : RS) (w : World) (h : Mst w b D s) :
    Calls Try.prog 26 #[.pointer (some ⟨b, 0, none⟩)] w (fun en w' => en = .returned (.int .i64 (rdEnd s)) ∧ ∃ n, w' = w.drewN n) := by
  cases s with
  | error e =>
    obtain ⟨v, l, he, h0⟩ := h.bad_inv
    have hc1 := h0.cell1
    have hne : (e == 0) = false := by simpa using he
    go_enter Try.func26, Try.ntmps26
    go_wp2_with fail
    go_ret
    exact ⟨rfl, 0, rfl⟩
  | ok l =>
    obtain ⟨v, h0⟩ := h.ok_inv
    obtain ⟨ao, cap, hv, hcap, _⟩ := h0.rv.opened
    subst hv
    have hc0 := h0.cell0
    have hc1 := h0.cell1
    go_enter Try.func26, Try.ntmps26
    cases l with
    | nil =>
      go_wp2_with fail
      go_ret
      exact ⟨rfl, 0, rfl⟩
    | cons c cs =>
      have hp : (0 : Int) < ((c :: cs).length : Int) := by simp
      generalize (c :: cs).length = n at *
      go_wp2_with fail
      go_ret
      exact ⟨rfl, 0, rfl⟩

set_option maxHeartbeats 1000000 in
set_option maxRecDepth 20000 in
theorem mbool_any (b D : Nat) (hD : D ≤ b) (s : RS) (w : World) (h : Mst w b D s) :
    Calls Try.prog 50 #[.pointer (some ⟨b, 0, none⟩)] w (MPost w b D (rdB s).2 (.bool (rdB s).1)) := by
  cases s with
  | error e =>
    obtain ⟨v, l, he, h0⟩ := h.bad_inv
    have hc1 := h0.cell1
    have hne : (e == 0) = false := by simpa using he
    have hne2 : (e != 0) = true := by simpa using he
    go_enter Try.func50, Try.ntmps50
    go_wp2_with fail
    go_ret
    exact ⟨rfl, h, BStep.refl _ _⟩
  | ok l =>
    obtain ⟨v, h0⟩ := h.ok_inv
    obtain ⟨ao, cap, hv, hcap, _⟩ := h0.rv.opened
    subst hv
    have hc0 := h0.cell0
    have hc1 := h0.cell1
    have hf0 := h0.frozen 0
    have hf1 := h0.frozen 1
    cases l with
    | nil =>
      have h1 := h0.err hD 3
      have e1 := h1.cell1
      have B1 := (BStep.refl b w).set 1 (.int .i64 3)
      go_enter Try.func50, Try.ntmps50
      go_wp2_with fail
      go_ret
      exact ⟨rfl, .bad (by decide) h1, B1⟩
    | cons c cs =>
      obtain ⟨g, off, rfl, hcx⟩ := h0.rv.rd.cell (i := 0) (u := vB c) rfl
      unfold vB at hcx
      rw [Nat.add_zero] at hcx
      have hlen : (c :: cs).length = cs.length + 1 := rfl
      have hp : (0 : Int) < ((c :: cs).length : Int) := by simp
      have hz : (((c :: cs).length : Int) == 0) = false := by simp; omega
      have hcut := h0.cutL hD 1 (by simp)
      generalize (c :: cs).length = n at *
      by_cases h1 : 1 < c.toNat
      · have hd : decide (1 < (c.toNat : Int)) = true := decide_eq_true (by omega)
        have h2 := h0.err hD 2
        have e1 := h2.cell1
        have hr : rdB (.ok (c :: cs)) = (false, .error 2) := by rw [rdB, if_pos h1]
        rw [hr]
        have H1 := Lib.hid h1
        clear h1
        go_enter Try.func50, Try.ntmps50
        go_wp2_with fail
        go_ret
        exact ⟨rfl, .bad (by decide) h2, (BStep.refl b w).set 1 (.int .i64 2)⟩
      · have hd : decide (1 < (c.toNat : Int)) = false := decide_eq_false (by omega)
        have hr : rdB (.ok (c :: cs)) = (c.toNat == 1, .ok cs) := by rw [rdB, if_neg h1]
        rw [hr]
        have hq : (c.toNat == 1) = ((c.toNat : Int) == 1) := by
          have : c.toNat = 0 ∨ c.toNat = 1 := by omega
          rcases this with e | e <;> rw [e] <;> rfl
        rw [hq]
        have H1 := Lib.hid h1
        clear h1 hq
        have hcap1 : (1 : Int) ≤ (cap : Int) := by omega
        go_enter Try.func50, Try.ntmps50
        go_wp2_with fail
        all_goals
          go_ret
          exact ⟨rfl, .ok (hcut _ (by first | rw [if_pos (by omega)] | rw [if_neg (by omega)]) _ _ (by omega) (by omega)), (BStep.refl b w).set 0 _⟩
end Go.Proofs.Ytofgcoapbocneaa
