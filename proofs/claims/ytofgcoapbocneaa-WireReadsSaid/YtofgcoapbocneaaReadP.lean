/- The plain law of reading: what is cut off, and that an encoding is the only one. -/
import Derived.Test.YtofgcoapbocneaaLawV
namespace Go.Proofs.Ytofgcoapbocneaa
open Go.RowKit

/-- A parse that needs more than the beginning records the lack. -/
theorem pU_short (i : Nat) (q r : List UInt8) {v : Nat} {t : List UInt8} (h : pU i (q ++ r) = .ok (v, t)) (ht : t.length < r.length) : pU i q = .error 3 := by
  induction q generalizing i v with
  | nil => rfl
  | cons c cs ih =>
    rw [List.cons_append, pU] at h
    rw [pU]
    split at h
    · cases h
    rename_i hf
    rw [if_neg hf]
    split at h
    · cases h
      rw [List.length_append] at ht
      omega
    · rename_i h8
      rw [if_neg h8]
      cases hp : pU (i + 1) (cs ++ r) with
      | error e => rw [hp] at h; cases h
      | ok x =>
        obtain ⟨v', t'⟩ := x
        rw [hp] at h
        cases h
        rw [ih (i + 1) hp]
theorem rdU_short (q r t : List UInt8) {v : Nat} (h : rdU (.ok (q ++ r)) = (v, .ok t)) (ht : t.length < r.length) : rdU (.ok q) = (0, .error 3) := by
  have h' : ofP (pU 0 (q ++ r)) = (v, .ok t) := h
  cases hp : pU 0 (q ++ r) with
  | error e => rw [hp] at h'; cases h'
  | ok x =>
    obtain ⟨v', t'⟩ := x
    rw [hp] at h'
    cases h'
    show ofP (pU 0 q) = _
    rw [pU_short 0 q r hp ht]
    rfl
/-- Either the beginning ends within the first part, or it begins with it. -/
theorem cut_cases {a b q r : List UInt8} (h : a ++ b = q ++ r) : (∃ r1, r1 ≠ [] ∧ a = q ++ r1) ∨ (∃ q1, q = a ++ q1 ∧ b = q1 ++ r) := by
  rcases List.append_eq_append_iff.1 h with ⟨x, h1, h2⟩ | ⟨x, h1, h2⟩
  · exact .inr ⟨x, h1, h2⟩
  · by_cases hx : x = []
    · subst hx
      exact .inr ⟨[], by simpa using h1.symm, by simpa using h2.symm⟩
    · exact .inl ⟨x, hx, h1⟩
theorem uvar_short (n : Nat) (hn : n < 18446744073709551616) (q r : List UInt8) (h : uvar n = q ++ r) (hr : r ≠ []) : rdU (.ok q) = (0, .error 3) := by
  have h1 := rdU_uvar n [] hn
  rw [List.append_nil, h] at h1
  exact rdU_short q r [] h1 (List.length_pos_iff.2 hr)
theorem rdNs_short (us : List Int) (hu : ∀ u ∈ us, -9223372036854775808 ≤ u ∧ u ≤ 9223372036854775807) (q r : List UInt8) (h : zvars us = q ++ r) (hr : r ≠ []) : (rdNs us.length (.ok q)).2 = .error 3 := by
  induction us generalizing q with
  | nil =>
    have : q ++ r = [] := h.symm
    exact absurd (List.append_eq_nil_iff.1 this).2 hr
  | cons u us ih =>
    have hh : zvar u ++ zvars us = q ++ r := h
    have hu0 := hu u (by simp)
    show (rdNs us.length (rdI (.ok q)).2).2 = _
    rcases cut_cases hh with ⟨r1, hr1, h1⟩ | ⟨q1, h1, h2⟩
    · have hs : rdI (.ok q) = (back 0, .error 3) := by rw [rdI, uvar_short (zz u) (zz_lt u hu0) q r1 h1 hr1]
      rw [hs]
      exact rdNs_error _ _
    · rw [h1, rdI_zvar u q1 hu0]
      exact ih (fun x hx => hu x (by simp [hx])) q1 h2
/-- Reading from a proper beginning of a value's encoding records that more is needed. -/
theorem rdV_short (m : V) (ok : m.Ok) (q r : List UInt8) (h : m.enc = q ++ r) (hr : r ≠ []) : (rdV m.k (.ok q)).2 = .error 3 := by
  obtain ⟨k, u, n, b, l⟩ := m
  have ou := ok.u
  have on := ok.n
  have ob := ok.b
  have ol := ok.l
  have or := ok.r
  simp only at ou on ob ol or
  unfold V.enc at h
  unfold rdV
  simp only at h ⊢
  by_cases h0 : k = 0
  · rw [if_pos h0] at h ⊢
    rw [uvar_short u ou q r h hr]
  rw [if_neg h0] at h ⊢
  by_cases h1 : k = 1
  · rw [if_pos h1] at h ⊢
    show (rdU (.ok q)).2 = _
    rw [uvar_short (zz n) (zz_lt n on) q r h hr]
  rw [if_neg h1] at h ⊢
  by_cases h2 : k = 2
  · rw [if_pos h2] at h ⊢
    cases q with
    | nil => rfl
    | cons c cs =>
      rw [List.cons_append] at h
      injection h with _ h
      exact absurd (List.append_eq_nil_iff.1 h.symm).2 hr
  rw [if_neg h2] at h ⊢
  by_cases h3 : k = 3 ∨ k = 4
  · rw [if_pos h3] at h ⊢
    show (rdRaw (.ok q)).2 = _
    rcases cut_cases (show uvar b.length ++ b = q ++ r from h) with ⟨r1, hr1, h1⟩ | ⟨q1, h1, h2⟩
    · rw [rdRaw, rdL, uvar_short b.length (by omega) q r1 h1 hr1]
    · have hlt : q1.length < b.length := by rw [h2, List.length_append]; have := List.length_pos_iff.2 hr; omega
      rw [h1, rdRaw, rdL, rdU_uvar b.length q1 (by omega)]
      simp [hlt]
  · rw [if_neg h3] at h ⊢
    show (rdInts (.ok q)).2 = _
    rcases cut_cases (show uvar l.length ++ zvars l = q ++ r from h) with ⟨r1, hr1, h1⟩ | ⟨q1, h1, h2⟩
    · rw [rdInts, rdL, uvar_short l.length (by omega) q r1 h1 hr1]
    · rw [h1, rdInts, rdL, rdU_uvar l.length q1 (by omega)]
      have hs := rdNs_short l or q1 r h2 hr
      by_cases hlt : q1.length < l.length
      · simp [hlt]
      · simp only [hlt, if_false]
        generalize rdNs l.length (.ok q1) = x at hs
        obtain ⟨x1, x2⟩ := x
        simp only at hs
        subst hs
        rfl
theorem rdV_error (k e : Int) : rdV k (.error e) = (⟨k, 0, 0, [], []⟩, .error e) := by
  unfold rdV
  by_cases h0 : k = 0
  · rw [if_pos h0]; rfl
  rw [if_neg h0]
  by_cases h1 : k = 1
  · rw [if_pos h1]
    have : rdI (.error e) = (0, .error e) := by simp [rdI, rdU, back]
    rw [this]
  rw [if_neg h1]
  by_cases h2 : k = 2
  · rw [if_pos h2]; rfl
  rw [if_neg h2]
  by_cases h3 : k = 3 ∨ k = 4
  · rw [if_pos h3]; rfl
  · rw [if_neg h3]; rfl

/-- The state while a proper beginning of an encoding is read. -/
def PInv (ms : VL) (i : Nat) (s : RS) : Prop := s = .error 3 ∨ ∃ q r, r ≠ [] ∧ encs (ms.drop i) = q ++ r ∧ s = .ok q
theorem PInv.step {ms : VL} {i : Nat} {s : RS} (h : PInv ms i s) (hi : i < ms.length) (ok : ms[i].1.Ok) (can : ms[i].1.Can) : PInv ms (i + 1) (rdV ms[i].1.k s).2 := by
  rcases h with rfl | ⟨q, r, hr, hq, rfl⟩
  · exact .inl (by rw [rdV_error])
  · rw [encs_drop ms i hi] at hq
    rcases cut_cases hq with ⟨r1, hr1, h1⟩ | ⟨q1, h1, h2⟩
    · exact .inl (rdV_short _ ok q r1 h1 hr1)
    · exact .inr ⟨q1, r, hr, h2, by rw [h1, rdV_enc _ ok can]⟩
theorem PInv.start {ms : VL} (c : Nat) (hc : c < (encs ms).length) : PInv ms 0 (.ok ((encs ms).take c)) :=
  .inr ⟨_, (encs ms).drop c, (fun h => by have := congrArg List.length h; simp at this; omega), (List.take_append_drop c (encs ms)).symm, rfl⟩
theorem PInv.done {ms : VL} {s : RS} (h : PInv ms ms.length s) : s = .error 3 := by
  rcases h with h | ⟨q, r, hr, hq, _⟩
  · exact h
  · rw [List.drop_length] at hq
    exact absurd (List.append_eq_nil_iff.1 hq.symm).2 hr

/-- What was parsed is the number's varint. -/
theorem pU_inv (i : Nat) (l : List UInt8) {v : Nat} {r : List UInt8} (h : pU i l = .ok (v, r)) (hv : v < 18446744073709551616) : l = uvar v ++ r ∧ (0 < i → 0 < v) := by
  induction l generalizing i v with
  | nil => cases h
  | cons c cs ih =>
    rw [pU] at h
    split at h
    · cases h
    rename_i hf
    have hc := c.toNat_lt
    split at h
    · rename_i h8
      cases h
      have e : c.toNat % 128 = c.toNat := Nat.mod_eq_of_lt h8
      rw [e, uvar_small h8]
      refine ⟨by simp, fun hi => ?_⟩
      simp only [Bool.or_eq_true, Bool.and_eq_true, beq_iff_eq, decide_eq_true_eq, not_or, not_and] at hf
      have := hf.2 hi
      omega
    · rename_i h8
      cases hp : pU (i + 1) cs with
      | error e => rw [hp] at h; cases h
      | ok x =>
        obtain ⟨v', t'⟩ := x
        rw [hp] at h
        cases h
        obtain ⟨h1, h2⟩ := ih (i + 1) hp (by omega)
        have hv0 := h2 (by omega)
        have e1 : (c.toNat % 128 + 128 * v') % 128 = c.toNat % 128 := by omega
        have e2 : (c.toNat % 128 + 128 * v') / 128 = v' := by omega
        rw [uvar_step (by omega) hv, e1, e2, List.cons_append, ← h1]
        refine ⟨?_, fun _ => by omega⟩
        have e3 : 128 + c.toNat % 128 = c.toNat := by omega
        rw [e3]
        simp
theorem rdU_inv (l : List UInt8) {v : Nat} {r : List UInt8} (h : rdU (.ok l) = (v, .ok r)) : l = uvar v ++ r := by
  have hb := rdU_bound (.ok l)
  rw [h] at hb
  have h' : ofP (pU 0 l) = (v, .ok r) := h
  cases hp : pU 0 l with
  | error e => rw [hp] at h'; cases h'
  | ok x =>
    obtain ⟨v', t'⟩ := x
    rw [hp] at h'
    cases h'
    exact (pU_inv 0 l hp hb).1
theorem zz_back (z : Nat) : zz (back z) = z := by
  rw [back, zz]
  split <;> split <;> omega
theorem rdI_inv (l : List UInt8) {n : Int} {r : List UInt8} (h : rdI (.ok l) = (n, .ok r)) : l = zvar n ++ r := by
  rw [rdI] at h
  cases hp : rdU (.ok l) with
  | mk v t =>
    rw [hp] at h
    simp only [Prod.mk.injEq] at h
    obtain ⟨rfl, rfl⟩ := h
    rw [zvar, zz_back]
    exact rdU_inv l hp
theorem rdI_range (s : RS) : -9223372036854775808 ≤ (rdI s).1 ∧ (rdI s).1 ≤ 9223372036854775807 := back_bound _ (rdU_bound s)
theorem rdB_inv (l : List UInt8) {t : Bool} {r : List UInt8} (h : rdB (.ok l) = (t, .ok r)) : l = [if t then 1 else 0] ++ r := by
  cases l with
  | nil => cases h
  | cons c cs =>
    rw [rdB] at h
    split at h
    · cases h
    · rename_i hc
      simp only [Prod.mk.injEq, Except.ok.injEq] at h
      obtain ⟨rfl, rfl⟩ := h
      have : c.toNat = 0 ∨ c.toNat = 1 := by omega
      rcases this with e | e
      · have : c = 0 := UInt8.toNat_inj.1 e
        subst this; rfl
      · have : c = 1 := UInt8.toNat_inj.1 e
        subst this; rfl
theorem rdL_inv (l : List UInt8) {n : Nat} {r : List UInt8} (h : rdL (.ok l) = (n, .ok r)) : l = uvar n ++ r ∧ n ≤ r.length := by
  rw [rdL] at h
  cases hp : rdU (.ok l) with
  | mk v t =>
    rw [hp] at h
    cases t with
    | error e => cases h
    | ok r' =>
      simp only at h
      split at h
      · cases h
      · cases h
        exact ⟨rdU_inv l hp, by omega⟩
theorem rdRaw_inv (l : List UInt8) {b r : List UInt8} (h : rdRaw (.ok l) = (b, .ok r)) : l = rawW b ++ r := by
  rw [rdRaw] at h
  cases hp : rdL (.ok l) with
  | mk v t =>
    rw [hp] at h
    cases t with
    | error e => cases h
    | ok r' =>
      simp only [Prod.mk.injEq, Except.ok.injEq] at h
      obtain ⟨rfl, rfl⟩ := h
      obtain ⟨h1, h2⟩ := rdL_inv l hp
      rw [rawW, List.length_take, Nat.min_eq_left h2, List.append_assoc, List.take_append_drop]
      exact h1
theorem rdNs_inv (n : Nat) (l : List UInt8) {us : List Int} {r : List UInt8} (h : rdNs n (.ok l) = (us, .ok r)) : us.length = n ∧ l = zvars us ++ r := by
  induction n generalizing l us with
  | zero => cases h; exact ⟨rfl, rfl⟩
  | succ n ih =>
    rw [rdNs] at h
    simp only [Prod.mk.injEq] at h
    obtain ⟨rfl, h⟩ := h
    cases hp : rdI (.ok l) with
    | mk v t =>
      rw [hp] at h
      simp only at h ⊢
      cases t with
      | error e => rw [rdNs_error] at h; cases h
      | ok l' =>
        obtain ⟨h1, h2⟩ := ih l' (us := (rdNs n (.ok l')).1) (by rw [← h])
        refine ⟨by rw [List.length_cons, h1], ?_⟩
        have h3 := rdI_inv l hp
        generalize (rdNs n (.ok l')).1 = ys at h2 ⊢
        rw [h3, h2]
        simp [zvars]
theorem rdNs_range (n : Nat) (s : RS) : ∀ x ∈ (rdNs n s).1, -9223372036854775808 ≤ x ∧ x ≤ 9223372036854775807 := by
  induction n generalizing s with
  | zero => intro x hx; cases hx
  | succ n ih =>
    intro x hx
    rw [rdNs] at hx
    rcases List.mem_cons.1 hx with rfl | hx
    · exact rdI_range s
    · exact ih _ x hx
theorem rdNs_len (n : Nat) (s : RS) : (rdNs n s).1.length = n := by
  induction n generalizing s with
  | zero => rfl
  | succ n ih => rw [rdNs, List.length_cons, ih]
theorem rdInts_inv (l : List UInt8) {us : List Int} {r : List UInt8} (h : rdInts (.ok l) = (us, .ok r)) : l = intsW us ++ r := by
  rw [rdInts] at h
  cases hp : rdL (.ok l) with
  | mk v t =>
    rw [hp] at h
    cases t with
    | error e => cases h
    | ok r' =>
      simp only at h
      cases hq : rdNs v (.ok r') with
      | mk ys t2 =>
        rw [hq] at h
        cases t2 with
        | error e => cases h
        | ok r2 =>
          cases h
          obtain ⟨h1, h2⟩ := rdL_inv l hp
          obtain ⟨h3, h4⟩ := rdNs_inv v r' hq
          rw [h1, h4, intsW, h3, List.append_assoc]
/-- What the reading of a value consumed is the value's encoding. -/
theorem rdV_inv (k : Int) (s : RS) (r : List UInt8) (h : (rdV k s).2 = .ok r) : s = .ok ((rdV k s).1.enc ++ r) := by
  cases s with
  | error e => rw [rdV_error] at h; cases h
  | ok l =>
    congr 1
    unfold rdV at h ⊢
    by_cases h0 : k = 0
    · rw [if_pos h0] at h ⊢
      subst h0
      exact rdU_inv l (Prod.ext rfl h)
    rw [if_neg h0] at h ⊢
    by_cases h1 : k = 1
    · rw [if_pos h1] at h ⊢
      subst h1
      exact rdI_inv l (Prod.ext rfl h)
    rw [if_neg h1] at h ⊢
    by_cases h2 : k = 2
    · rw [if_pos h2] at h ⊢
      subst h2
      have := rdB_inv l (Prod.ext rfl h : rdB (.ok l) = ((rdB (.ok l)).1, .ok r))
      refine this.trans ?_
      cases (rdB (.ok l)).1 <;> rfl
    rw [if_neg h2] at h ⊢
    by_cases h3 : k = 3 ∨ k = 4
    · rw [if_pos h3] at h ⊢
      have := rdRaw_inv l (Prod.ext rfl h : rdRaw (.ok l) = ((rdRaw (.ok l)).1, .ok r))
      simp only [V.enc, if_neg h0, if_neg h1, if_neg h2, if_pos h3]
      exact this
    · rw [if_neg h3] at h ⊢
      have := rdInts_inv l (Prod.ext rfl h : rdInts (.ok l) = ((rdInts (.ok l)).1, .ok r))
      simp only [V.enc, if_neg h0, if_neg h1, if_neg h2, if_neg h3]
      exact this
theorem rdInts_ok (s : RS) : (rdInts s).1.length ≤ left s ∧ ∀ x ∈ (rdInts s).1, -9223372036854775808 ≤ x ∧ x ≤ 9223372036854775807 := by
  have hu := rdU_left s
  unfold rdInts rdL
  generalize rdU s = q at hu ⊢
  obtain ⟨n, t⟩ := q
  cases t with
  | error e => exact ⟨Nat.zero_le _, fun x hx => by cases hx⟩
  | ok r =>
    have hu' : r.length ≤ left s := hu
    by_cases hn : r.length < n
    · simp [hn]
    · simp only [hn, if_false]
      have h1 := rdNs_len n (.ok r)
      have h2 := rdNs_range n (.ok r)
      generalize rdNs n (.ok r) = x at h1 h2 ⊢
      obtain ⟨ys, t2⟩ := x
      cases t2 with
      | error e => exact ⟨Nat.zero_le _, fun x hx => by cases hx⟩
      | ok r2 => exact ⟨by simp only at h1 ⊢; omega, h2⟩
theorem rdV_ok (k : Int) (s : RS) (h : left s ≤ 100000) : (rdV k s).1.Ok := by
  have hu := rdU_bound s
  have hi := rdI_range s
  have hr := rdRaw_len s
  obtain ⟨hl, hx⟩ := rdInts_ok s
  unfold rdV
  by_cases h0 : k = 0
  · rw [if_pos h0]
    exact ⟨hu, by simp, by simp, by simp, by simp⟩
  rw [if_neg h0]
  by_cases h1 : k = 1
  · rw [if_pos h1]
    exact ⟨by simp, hi, by simp, by simp, by simp⟩
  rw [if_neg h1]
  by_cases h2 : k = 2
  · rw [if_pos h2]
    refine ⟨by simp, ?_, by simp, by simp, by simp⟩
    simp only
    split <;> omega
  rw [if_neg h2]
  by_cases h3 : k = 3 ∨ k = 4
  · rw [if_pos h3]
    exact ⟨by simp, by simp, by simp only; omega, by simp, by simp⟩
  · rw [if_neg h3]
    exact ⟨by simp, by simp, by simp, by simp only; omega, hx⟩
theorem rdV_kind (k : Int) (s : RS) : (rdV k s).1.k = k := by
  unfold rdV
  split
  · rfl
  split
  · rfl
  split
  · rfl
  split <;> rfl

/-- While the reading has not failed, what was read is what was consumed. -/
def GInv (T : List UInt8) (s : RS) (got : VL) : Prop := ∀ r, s = .ok r → T = encs got ++ r
theorem GInv.start (T : List UInt8) : GInv T (.ok T) [] := fun r h => by cases h; rfl
theorem GInv.step {T : List UInt8} {s : RS} {got : VL} (h : GInv T s got) (k : Int) (vb vl : Value) : GInv T (rdV k s).2 (got ++ [((rdV k s).1, vb, vl)]) := fun r hr => by
  have h1 := h _ (rdV_inv k s r hr)
  rw [h1]
  simp [encs, List.flatMap_append, List.append_assoc]
end Go.Proofs.Ytofgcoapbocneaa
