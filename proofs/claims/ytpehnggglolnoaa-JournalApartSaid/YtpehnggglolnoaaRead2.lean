/- Contracts of wire.Reader: Int, Bool, End, the lists. -/
import Derived.Test.YtpehnggglolnoaaRead
namespace Go.Proofs.Ytpehnggglolnoaa
open Go.RowKit

set_option maxHeartbeats 1000000 in
theorem rint_any (b : Nat) (v : Value) (bs : List UInt8) (s : RS) (w : World) (h : Rst w b v bs s) :
    Calls Try.prog 61 #[.pointer (some ⟨b, 0, none⟩)] w (RPost w b v bs (rdI s).2 (.int .i64 (rdI s).1)) := by
  have hu := ruint_any b v bs s w h
  have hb := rdU_bound s
  rw [rdI]
  generalize rdU s = p at *
  obtain ⟨n, s'⟩ := p
  have HB := Lib.hid (back_bits n hb)
  clear hb
  go_enter Try.func61, Try.ntmps61
  go_wp2_with fail
  refine hu.mono ?_
  rintro en w1 ⟨rfl, h1, h2⟩
  go_wp2_with fail
  rw [HB.out]
  go_ret
  exact ⟨rfl, h1, h2⟩

set_option maxHeartbeats 1000000 in
theorem rend_any (b : Nat) (v : Value) (bs : List UInt8) (s : RS) (w : World) (h : Rst w b v bs s) :
    Calls Try.prog 39 #[.pointer (some ⟨b, 0, none⟩)] w (fun en w' => en = .returned (.int .i64 (rdEnd s)) ∧ ∃ n, w' = w.drewN n) := by
  cases s with
  | error e =>
    obtain ⟨a, he, h0⟩ := h.bad_inv
    have hc2 := h0.cell2
    have hne : (e == 0) = false := by simpa using he
    go_enter Try.func39, Try.ntmps39
    go_wp2_with fail
    go_ret
    exact ⟨rfl, 0, rfl⟩
  | ok l =>
    obtain ⟨k, hk, rfl, h0⟩ := h.ok_inv
    have hc0 := h0.cell0
    have hc1 := h0.cell1
    have hc2 := h0.cell2
    obtain ⟨ao, cap, rfl, hcap, hrd⟩ := h0.2.1.opened
    by_cases hlt : k < bs.length
    · have hd : rdEnd (.ok (bs.drop k)) = 2 := by rw [List.drop_eq_getElem_cons hlt]; rfl
      rw [hd]
      have hb : decide (k < bs.length) = true := decide_eq_true hlt
      go_enter Try.func39, Try.ntmps39
      go_wp2_with fail
      go_quiet (fail)
      go_wp2_with fail
      go_ret
      exact ⟨rfl, nq, rfl⟩
    · have hd : rdEnd (.ok (bs.drop k)) = 0 := by rw [List.drop_eq_nil_of_le (by omega)]; rfl
      rw [hd]
      have hb : decide (k < bs.length) = false := decide_eq_false hlt
      go_enter Try.func39, Try.ntmps39
      go_wp2_with fail
      go_quiet (fail)
      go_wp2_with fail
      go_ret
      exact ⟨rfl, nq, rfl⟩
end Go.Proofs.Ytpehnggglolnoaa
