/- Contracts of wire.Reader: Int, Bool, End, the lists. -/
import Derived.Test.YtofgcoapbocneaaRead
namespace Go.Proofs.Ytofgcoapbocneaa
open Go.RowKit

set_option maxHeartbeats 1000000 in
theorem rint_any (b : Nat) (v : Value) (bs : List UInt8) (s : RS) (w : World) (h : Rst w b v bs s) :
    Calls Try.prog 40 #[.pointer (some ⟨b, 0, none⟩)] w (RPost w b v bs (rdI s).2 (.int .i64 (rdI s).1)) := by
  have hu := ruint_any b v bs s w h
  have hb := rdU_bound s
  rw [rdI]
  generalize rdU s = p at *
  obtain ⟨n, s'⟩ := p
  have HB := Lib.hid (back_bits n hb)
  clear hb
  go_enter Try.func40, Try.ntmps40
  go_wp2_with fail
  refine hu.mono ?_
  rintro en w1 ⟨rfl, h1, h2⟩
  go_wp2_with fail
  rw [HB.out]
  go_ret
  exact ⟨rfl, h1, h2⟩

set_option maxHeartbeats 1000000 in
theorem rbool_any (b : Nat) (v : Value) (bs : List UInt8) (s : RS) (w : World) (h : Rst w b v bs s) :
    Calls Try.prog 47 #[.pointer (some ⟨b, 0, none⟩)] w (RPost w b v bs (rdB s).2 (.bool (rdB s).1)) := by
  have ho := oct_any b v bs s w h
  have hcase : (1 < (rdO s).1.toNat ∧ rdB s = (false, .error 2) ∧ ∃ l, (rdO s).2 = .ok l) ∨ (¬ 1 < (rdO s).1.toNat ∧ rdB s = ((rdO s).1.toNat == 1, (rdO s).2)) := by
    rcases s with e | (_ | ⟨c, cs⟩)
    · exact .inr ⟨by simp [rdO], rfl⟩
    · exact .inr ⟨by simp [rdO], rfl⟩
    · by_cases hc : 1 < c.toNat
      · exact .inl ⟨hc, by rw [rdB, if_pos hc], _, rfl⟩
      · exact .inr ⟨hc, by rw [rdB, if_neg hc]; rfl⟩
  generalize rdO s = p at *
  obtain ⟨c, s'⟩ := p
  simp only at hcase ho
  rcases hcase with ⟨hc, hr, l, rfl⟩ | ⟨hc, hr⟩
  · have hb2 : decide (1 < (c.toNat : Int)) = true := decide_eq_true (by omega)
    have hb1 : ((c.toNat : Int) == 1) = false := beq_eq_false_iff_ne.2 (by omega)
    clear hc
    rw [hr]
    go_enter Try.func47, Try.ntmps47
    go_wp2_with fail
    refine ho.mono ?_
    rintro en w1 ⟨rfl, h1, h2⟩
    obtain ⟨k, hk, rfl, hr1⟩ := h1.ok_inv
    have hc2 := hr1.cell2
    have hf2 := hr1.frozen 2
    simp only [vB]
    go_wp2_with fail
    go_ret
    exact ⟨rfl, .bad _ 2 (by decide) (hr1.err 2), h2.set 2 _⟩
  · have hb2 : decide (1 < (c.toNat : Int)) = false := decide_eq_false (by omega)
    have hb1 : ((c.toNat : Int) == 1) = (c.toNat == 1) := by rw [Bool.eq_iff_iff]; simp only [beq_iff_eq]; omega
    clear hc
    rw [hr]
    go_enter Try.func47, Try.ntmps47
    go_wp2_with fail
    refine ho.mono ?_
    rintro en w1 ⟨rfl, h1, h2⟩
    simp only [vB]
    go_wp2_with fail
    go_ret
    exact ⟨rfl, h1, h2⟩

set_option maxHeartbeats 1000000 in
theorem rend_any (b : Nat) (v : Value) (bs : List UInt8) (s : RS) (w : World) (h : Rst w b v bs s) :
    Calls Try.prog 25 #[.pointer (some ⟨b, 0, none⟩)] w (fun en w' => en = .returned (.int .i64 (rdEnd s)) ∧ ∃ n, w' = w.drewN n) := by
  cases s with
  | error e =>
    obtain ⟨a, he, h0⟩ := h.bad_inv
    have hc2 := h0.cell2
    have hne : (e == 0) = false := by simpa using he
    go_enter Try.func25, Try.ntmps25
    go_wp2_with fail
    go_ret
    exact ⟨rfl, 0, rfl⟩
  | ok l =>
    obtain ⟨k, hk, rfl, h0⟩ := h.ok_inv
    have hc0 := h0.cell0
    have hc1 := h0.cell1
    have hc2 := h0.cell2
    obtain ⟨ao, cap, rfl, hcap, hrd⟩ := h0.2.1.opened
    by_cases hlt : k < bs.length
    · have hd : rdEnd (.ok (bs.drop k)) = 2 := by rw [List.drop_eq_getElem_cons hlt]; rfl
      rw [hd]
      have hb : decide (k < bs.length) = true := decide_eq_true hlt
      go_enter Try.func25, Try.ntmps25
      go_wp2_with fail
      go_quiet (fail)
      go_wp2_with fail
      go_ret
      exact ⟨rfl, nq, rfl⟩
    · have hd : rdEnd (.ok (bs.drop k)) = 0 := by rw [List.drop_eq_nil_of_le (by omega)]; rfl
      rw [hd]
      have hb : decide (k < bs.length) = false := decide_eq_false hlt
      go_enter Try.func25, Try.ntmps25
      go_wp2_with fail
      go_quiet (fail)
      go_wp2_with fail
      go_ret
      exact ⟨rfl, nq, rfl⟩
end Go.Proofs.Ytofgcoapbocneaa
