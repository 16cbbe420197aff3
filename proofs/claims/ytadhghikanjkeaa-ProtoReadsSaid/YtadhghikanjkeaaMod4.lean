/- rexmillref02.Reader: length, Raw, Ints. -/
import Derived.Test.YtadhghikanjkeaaMod3
namespace Go.Proofs.Ytadhghikanjkeaa
open Go.RowKit

theorem rdL_cases (s : RS) : (∃ e, (rdU s).2 = .error e ∧ rdL s = (0, .error e)) ∨ (∃ r, (rdU s).2 = .ok r ∧ r.length < (rdU s).1 ∧ rdL s = (0, .error 3)) ∨
    (∃ r, (rdU s).2 = .ok r ∧ (rdU s).1 ≤ r.length ∧ rdL s = ((rdU s).1, .ok r)) := by
  rw [rdL]
  rcases hp : rdU s with ⟨n, e | r⟩
  · exact .inl ⟨e, rfl, rfl⟩
  · by_cases h : r.length < n
    · exact .inr (.inl ⟨r, rfl, h, by simp [h]⟩)
    · exact .inr (.inr ⟨r, rfl, by simpa using h, by simp [h]⟩)

set_option maxHeartbeats 1000000 in
set_option maxRecDepth 20000 in
theorem mlen_any (b D : Nat) (hD : D ≤ b) (s : RS) (w : World) (h : Mst w b D s) :
    Calls Try.prog 64 #[.pointer (some ⟨b, 0, none⟩)] w (MPost w b D (rdL s).2 (.int .i64 ((rdL s).1 : Int))) := by
  have hu := muint_any b D hD s w h
  have hcase := rdL_cases s
  have hbd := rdU_bound s
  generalize rdL s = q at *
  generalize rdU s = p at *
  obtain ⟨n, s'⟩ := p
  simp only at hcase hu hbd
  have HBD := Lib.hid hbd
  clear hbd
  rcases hcase with ⟨e, rfl, rfl⟩ | ⟨r, rfl, hn, rfl⟩ | ⟨r, rfl, hn, rfl⟩
  · go_enter Try.func64, Try.ntmps64
    go_wp2_with fail
    refine hu.mono ?_
    rintro en w1 ⟨rfl, T1, S1⟩
    obtain ⟨v, l, he, h0⟩ := T1.bad_inv
    have hc1 := h0.cell1
    have hne : (e == 0) = false := by simpa using he
    have hne2 : (e != 0) = true := by simpa using he
    go_wp2_with fail
    go_ret
    exact ⟨rfl, T1, S1⟩
  · go_enter Try.func64, Try.ntmps64
    go_wp2_with fail
    refine hu.mono ?_
    rintro en w1 ⟨rfl, T1, S1⟩
    obtain ⟨v, h0⟩ := T1.ok_inv
    have hlm := h0.rv.len
    unfold maxLen at hlm
    have hwr : IntKind.u64.wrap (r.length : Int) = (r.length : Int) := by rw [IntKind.wrap_u64]; omega
    obtain ⟨ao, cap, hv, hcap, _⟩ := h0.rv.opened
    subst hv
    have hc0 := h0.cell0
    have hc1 := h0.cell1
    have hf1 := h0.frozen 1
    have h1 := h0.err hD 3
    have e1 := h1.cell1
    have hd : decide ((r.length : Int) < (n : Int)) = true := decide_eq_true (by omega)
    have HN := Lib.hid hn
    clear hn hlm
    go_wp2_with fail
    go_ret
    exact ⟨rfl, .bad (by decide) h1, S1.set 1 _⟩
  · go_enter Try.func64, Try.ntmps64
    go_wp2_with fail
    refine hu.mono ?_
    rintro en w1 ⟨rfl, T1, S1⟩
    obtain ⟨v, h0⟩ := T1.ok_inv
    have hlm := h0.rv.len
    unfold maxLen at hlm
    have hwr : IntKind.u64.wrap (r.length : Int) = (r.length : Int) := by rw [IntKind.wrap_u64]; omega
    have hwi : IntKind.i64.wrap (n : Int) = (n : Int) := by rw [IntKind.wrap_i64]; omega
    obtain ⟨ao, cap, hv, hcap, _⟩ := h0.rv.opened
    subst hv
    have hc0 := h0.cell0
    have hc1 := h0.cell1
    have hd : decide ((r.length : Int) < (n : Int)) = false := decide_eq_false (by omega)
    have hnl : ¬ r.length < n := by omega
    clear hlm
    go_wp2_with fail
    go_ret
    exact ⟨rfl, T1, S1⟩

theorem Mq.cutA {w : World} {b D : Nat} {ao : Option Addr} {n cap : Nat} {l : List UInt8} {e : Int} (h : Mq w b D (.slice ao n cap) l e) (hD : D ≤ b) (k : Nat) (hk : k ≤ l.length) (A : Option Addr) (hA : A = if cap = k then ao else ao.map (·.add k)) (n' c' : Nat) (hn : n' = l.length - k) (hc' : c' = cap - k) :
    Mq (w.setCell ⟨b, 0, none⟩ (.slice A n' c')) b D (.slice A n' c') (l.drop k) e := by
  subst hn hc' hA
  obtain ⟨_, _, h1, h2⟩ := h.cut k hk
  exact h.set hD h1 h2

/-- The bytes read lie below D. -/
def MRaw (w : World) (b D : Nat) (q : List UInt8 × RS) (en : Ending) (w' : World) : Prop :=
  ∃ v', en = .returned v' ∧ Rv w' v' q.1.length (q.1.map vB) ∧ Low D v' ∧ Mst w' b D q.2 ∧ BStep b w w'

set_option maxHeartbeats 1000000 in
set_option maxRecDepth 20000 in
theorem mraw_any (b D : Nat) (hD : D ≤ b) (s : RS) (w : World) (h : Mst w b D s) :
    Calls Try.prog 46 #[.pointer (some ⟨b, 0, none⟩)] w (MRaw w b D (rdRaw s)) := by
  have hu := mlen_any b D hD s w h
  have hx : (∃ n r, rdL s = (n, .ok r) ∧ n ≤ r.length ∧ rdRaw s = (r.take n, .ok (r.drop n))) ∨ ∃ e, rdL s = (0, .error e) ∧ rdRaw s = ([], .error e) := by
    rcases rdL_cases s with ⟨e, _, h2⟩ | ⟨r, _, _, h2⟩ | ⟨r, _, h1, h2⟩
    · exact .inr ⟨e, h2, by rw [rdRaw, h2]⟩
    · exact .inr ⟨3, h2, by rw [rdRaw, h2]⟩
    · exact .inl ⟨_, r, h2, h1, by rw [rdRaw, h2]⟩
  rcases hx with ⟨n, r, hl, hn, hr⟩ | ⟨e, hl, hr⟩
  · rw [hl] at hu
    rw [hr]
    go_enter Try.func46, Try.ntmps46
    go_wp2_with fail
    refine hu.mono ?_
    rintro en w1 ⟨rfl, T1, S1⟩
    obtain ⟨v, h0⟩ := T1.ok_inv
    have hlm := h0.rv.len
    unfold maxLen at hlm
    obtain ⟨a', c', h1, _, h2⟩ := h0.rv.firsts n hn
    subst h1
    have hk := h2 n rfl
    obtain ⟨ao, cap, hv, hcap, _⟩ := h0.rv.opened
    cases hv
    have hc0 := h0.cell0
    have hc1 := h0.cell1
    have hf0 := h0.frozen 0
    have hn0 : (0 : Int) ≤ (n : Int) := by omega
    have hn1 : (n : Int) ≤ (r.length : Int) := by omega
    have hn2 : (n : Int) ≤ (c' : Int) := by omega
    clear hlm
    have hlo : Low D (.slice a' n c') := fun g e => h0.lo g (by cases a' <;> exact e)
    have htl : (r.take n).length = n := by rw [List.length_take]; omega
    have hk' : Rv w1 (.slice a' n c') (r.take n).length ((r.take n).map vB) := by rw [htl, List.map_take]; exact hk
    have HK := Lib.hid hk'
    clear htl hk hk'
    go_wp2_with fail
    all_goals
      try (have hcn : n = c' := by omega
           subst hcn)
      go_ret
      exact ⟨_, rfl, HK.out.bstep ((BStep.refl b w1).set 0 _) (fun e => by have := hlo b e; omega), hlo, .ok (h0.cutA hD n hn _ (by first | rw [if_pos (by omega)] | rw [if_neg (by omega)]) _ _ (by omega) (by omega)), S1.set 0 _⟩
  · rw [hl] at hu
    rw [hr]
    go_enter Try.func46, Try.ntmps46
    go_wp2_with fail
    refine hu.mono ?_
    rintro en w1 ⟨rfl, T1, S1⟩
    obtain ⟨v, l, he, h0⟩ := T1.bad_inv
    have hc1 := h0.cell1
    have hne : (e == 0) = false := by simpa using he
    have hne2 : (e != 0) = true := by simpa using he
    go_wp2_with fail
    go_ret
    exact ⟨_, rfl, Rv.nil _, low_nil _, T1, S1⟩
end Go.Proofs.Ytadhghikanjkeaa
