/- rexmillref02.Reader: Int, Bool, length, End. -/
import Derived.Test.YtadhghikanjkeaaMod2
namespace Go.Proofs.Ytadhghikanjkeaa
open Go.RowKit

theorem mint_any (b D : Nat) (hD : D ≤ b) (s : RS) (w : World) (h : Mst w b D s) :
    Calls Try.prog 45 #[.pointer (some ⟨b, 0, none⟩)] w (MPost w b D (rdI s).2 (.int .i64 (rdI s).1)) := by
  have hb := rdU_bound s
  have HB := Lib.hid hb
  clear hb
  go_enter Try.func45, Try.ntmps45
  go_wp2_with fail
  refine (muint_any b D hD s w h).mono ?_
  rintro e w1 ⟨rfl, T1, S1⟩
  go_wp2_with fail
  refine (eback_any (rdU s).1 _ HB.out).mono ?_
  rintro e w2 ⟨rfl, rfl⟩
  go_wp2_with fail
  go_ret
  exact ⟨rfl, T1, S1⟩

set_option maxHeartbeats 1000000 in
theorem mend_any (b D : Nat) (s : RS) (w : World) (h : Mst w b D s) :
    Calls Try.prog 47 #[.pointer (some ⟨b, 0, none⟩)] w (fun en w' => en = .returned (.int .i64 (rdEnd s)) ∧ ∃ n, w' = w.drewN n) := by
  cases s with
  | error e =>
    obtain ⟨v, l, he, h0⟩ := h.bad_inv
    have hc1 := h0.cell1
    have hne : (e == 0) = false := by simpa using he
    go_enter Try.func47, Try.ntmps47
    go_wp2_with fail
    go_ret
    exact ⟨rfl, 0, rfl⟩
  | ok l =>
    obtain ⟨v, h0⟩ := h.ok_inv
    obtain ⟨ao, cap, hv, hcap, _⟩ := h0.rv.opened
    subst hv
    have hc0 := h0.cell0
    have hc1 := h0.cell1
    go_enter Try.func47, Try.ntmps47
    cases l with
    | nil =>
      go_wp2_with fail
      go_ret
      exact ⟨rfl, 0, rfl⟩
    | cons c cs =>
      have hp : (0 : Int) < ((c :: cs).length : Int) := by simp
      generalize (c :: cs).length = n at *
      go_wp2_with fail
      go_ret
      exact ⟨rfl, 0, rfl⟩
end Go.Proofs.Ytadhghikanjkeaa
