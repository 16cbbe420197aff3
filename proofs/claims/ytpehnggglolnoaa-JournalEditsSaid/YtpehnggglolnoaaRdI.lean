/- What was read is the encoding of what it reads as; for seats without the values of law02. -/
import Derived.Test.YtpehnggglolnoaaReadR
import Derived.Test.YtpehnggglolnoaaRead4
namespace Go.Proofs.Ytpehnggglolnoaa
open Go.RowKit

/-- The value lies below block b. -/
def Low (b : Nat) (v : Value) : Prop := ∀ g, v.ownBlock = some g → g < b
theorem Made.low {w w' : World} {e : TypeId} {v : Value} {us : List Value} (h : Made w w' e v us) : Low w'.heap.size v := fun g hg => (h.1.lt g hg).2
theorem low_nil (b : Nat) : Low b (.slice none 0 0) := fun g hg => by cases hg
theorem Low.mono {b c : Nat} {v : Value} (h : Low b v) (hbc : b ≤ c) : Low c v := fun g hg => Nat.lt_of_lt_of_le (h g hg) hbc
theorem heap_set {w : World} {b : Nat} {cs : Array Value} {t : TypeId} (h : w.heap[b]? = some (.cells cs t (0, 0))) (j : Nat) (x : Value) : (w.setCell ⟨b, j, none⟩ x).heap[b]? = some (.cells (cs.setIfInBounds j x) t (0, 0)) := by
  obtain ⟨hlt, hk⟩ := Array.getElem?_eq_some_iff.1 h
  show (w.heap.modify b _)[b]? = _
  rw [Array.getElem?_eq_getElem (by rw [Array.size_modify]; exact hlt), Array.getElem_modify_self, hk]
  rfl
theorem pU_short (i : Nat) (q r : List UInt8) {v : Nat} {t : List UInt8} (h : pU i (q ++ r) = .ok (v, t)) (ht : t.length < r.length) : pU i q = .error 3 := by
  induction q generalizing i v with
  | nil => rfl
  | cons c cs ih =>
    rw [List.cons_append, pU] at h
    rw [pU]
    split at h
    · cases h
    rename_i hf
    rw [if_neg hf]
    split at h
    · cases h
      rw [List.length_append] at ht
      omega
    · rename_i h8
      rw [if_neg h8]
      cases hp : pU (i + 1) (cs ++ r) with
      | error e => rw [hp] at h; cases h
      | ok x =>
        obtain ⟨v', t'⟩ := x
        rw [hp] at h
        cases h
        rw [ih (i + 1) hp]
theorem rdU_short (q r t : List UInt8) {v : Nat} (h : rdU (.ok (q ++ r)) = (v, .ok t)) (ht : t.length < r.length) : rdU (.ok q) = (0, .error 3) := by
  have h' : ofP (pU 0 (q ++ r)) = (v, .ok t) := h
  cases hp : pU 0 (q ++ r) with
  | error e => rw [hp] at h'; cases h'
  | ok x =>
    obtain ⟨v', t'⟩ := x
    rw [hp] at h'
    cases h'
    show ofP (pU 0 q) = _
    rw [pU_short 0 q r hp ht]
    rfl
/-- Either the beginning ends within the first part, or it begins with it. -/
theorem cut_cases {a b q r : List UInt8} (h : a ++ b = q ++ r) : (∃ r1, r1 ≠ [] ∧ a = q ++ r1) ∨ (∃ q1, q = a ++ q1 ∧ b = q1 ++ r) := by
  rcases List.append_eq_append_iff.1 h with ⟨x, h1, h2⟩ | ⟨x, h1, h2⟩
  · exact .inr ⟨x, h1, h2⟩
  · by_cases hx : x = []
    · subst hx
      exact .inr ⟨[], by simpa using h1.symm, by simpa using h2.symm⟩
    · exact .inl ⟨x, hx, h1⟩
theorem uvar_short (n : Nat) (hn : n < 18446744073709551616) (q r : List UInt8) (h : uvar n = q ++ r) (hr : r ≠ []) : rdU (.ok q) = (0, .error 3) := by
  have h1 := rdU_uvar n [] hn
  rw [List.append_nil, h] at h1
  exact rdU_short q r [] h1 (List.length_pos_iff.2 hr)
/-- What was parsed is the number's varint. -/
theorem pU_inv (i : Nat) (l : List UInt8) {v : Nat} {r : List UInt8} (h : pU i l = .ok (v, r)) (hv : v < 18446744073709551616) : l = uvar v ++ r ∧ (0 < i → 0 < v) := by
  induction l generalizing i v with
  | nil => cases h
  | cons c cs ih =>
    rw [pU] at h
    split at h
    · cases h
    rename_i hf
    have hc := c.toNat_lt
    split at h
    · rename_i h8
      cases h
      have e : c.toNat % 128 = c.toNat := Nat.mod_eq_of_lt h8
      rw [e, uvar_small h8]
      refine ⟨by simp, fun hi => ?_⟩
      simp only [Bool.or_eq_true, Bool.and_eq_true, beq_iff_eq, decide_eq_true_eq, not_or, not_and] at hf
      have := hf.2 hi
      omega
    · rename_i h8
      cases hp : pU (i + 1) cs with
      | error e => rw [hp] at h; cases h
      | ok x =>
        obtain ⟨v', t'⟩ := x
        rw [hp] at h
        cases h
        obtain ⟨h1, h2⟩ := ih (i + 1) hp (by omega)
        have hv0 := h2 (by omega)
        have e1 : (c.toNat % 128 + 128 * v') % 128 = c.toNat % 128 := by omega
        have e2 : (c.toNat % 128 + 128 * v') / 128 = v' := by omega
        rw [uvar_step (by omega) hv, e1, e2, List.cons_append, ← h1]
        refine ⟨?_, fun _ => by omega⟩
        have e3 : 128 + c.toNat % 128 = c.toNat := by omega
        rw [e3]
        simp
theorem rdU_inv (l : List UInt8) {v : Nat} {r : List UInt8} (h : rdU (.ok l) = (v, .ok r)) : l = uvar v ++ r := by
  have hb := rdU_bound (.ok l)
  rw [h] at hb
  have h' : ofP (pU 0 l) = (v, .ok r) := h
  cases hp : pU 0 l with
  | error e => rw [hp] at h'; cases h'
  | ok x =>
    obtain ⟨v', t'⟩ := x
    rw [hp] at h'
    cases h'
    exact (pU_inv 0 l hp hb).1
theorem zz_back (z : Nat) : zz (back z) = z := by
  rw [back, zz]
  split <;> split <;> omega
theorem rdI_inv (l : List UInt8) {n : Int} {r : List UInt8} (h : rdI (.ok l) = (n, .ok r)) : l = zvar n ++ r := by
  rw [rdI] at h
  cases hp : rdU (.ok l) with
  | mk v t =>
    rw [hp] at h
    simp only [Prod.mk.injEq] at h
    obtain ⟨rfl, rfl⟩ := h
    rw [zvar, zz_back]
    exact rdU_inv l hp
theorem rdI_range (s : RS) : -9223372036854775808 ≤ (rdI s).1 ∧ (rdI s).1 ≤ 9223372036854775807 := back_bound _ (rdU_bound s)
theorem rdB_inv (l : List UInt8) {t : Bool} {r : List UInt8} (h : rdB (.ok l) = (t, .ok r)) : l = [if t then 1 else 0] ++ r := by
  cases l with
  | nil => cases h
  | cons c cs =>
    rw [rdB] at h
    split at h
    · cases h
    · rename_i hc
      simp only [Prod.mk.injEq, Except.ok.injEq] at h
      obtain ⟨rfl, rfl⟩ := h
      have : c.toNat = 0 ∨ c.toNat = 1 := by omega
      rcases this with e | e
      · have : c = 0 := UInt8.toNat_inj.1 e
        subst this; rfl
      · have : c = 1 := UInt8.toNat_inj.1 e
        subst this; rfl
theorem rdL_inv (l : List UInt8) {n : Nat} {r : List UInt8} (h : rdL (.ok l) = (n, .ok r)) : l = uvar n ++ r ∧ n ≤ r.length := by
  rw [rdL] at h
  cases hp : rdU (.ok l) with
  | mk v t =>
    rw [hp] at h
    cases t with
    | error e => cases h
    | ok r' =>
      simp only at h
      split at h
      · cases h
      · cases h
        exact ⟨rdU_inv l hp, by omega⟩
theorem rdRaw_inv (l : List UInt8) {b r : List UInt8} (h : rdRaw (.ok l) = (b, .ok r)) : l = rawW b ++ r := by
  rw [rdRaw] at h
  cases hp : rdL (.ok l) with
  | mk v t =>
    rw [hp] at h
    cases t with
    | error e => cases h
    | ok r' =>
      simp only [Prod.mk.injEq, Except.ok.injEq] at h
      obtain ⟨rfl, rfl⟩ := h
      obtain ⟨h1, h2⟩ := rdL_inv l hp
      rw [rawW, List.length_take, Nat.min_eq_left h2, List.append_assoc, List.take_append_drop]
      exact h1
theorem rdNs_inv (n : Nat) (l : List UInt8) {us : List Int} {r : List UInt8} (h : rdNs n (.ok l) = (us, .ok r)) : us.length = n ∧ l = zvars us ++ r := by
  induction n generalizing l us with
  | zero => cases h; exact ⟨rfl, rfl⟩
  | succ n ih =>
    rw [rdNs] at h
    simp only [Prod.mk.injEq] at h
    obtain ⟨rfl, h⟩ := h
    cases hp : rdI (.ok l) with
    | mk v t =>
      rw [hp] at h
      simp only at h ⊢
      cases t with
      | error e => rw [rdNs_error] at h; cases h
      | ok l' =>
        obtain ⟨h1, h2⟩ := ih l' (us := (rdNs n (.ok l')).1) (by rw [← h])
        refine ⟨by rw [List.length_cons, h1], ?_⟩
        have h3 := rdI_inv l hp
        generalize (rdNs n (.ok l')).1 = ys at h2 ⊢
        rw [h3, h2]
        simp [zvars]
theorem rdNs_range (n : Nat) (s : RS) : ∀ x ∈ (rdNs n s).1, -9223372036854775808 ≤ x ∧ x ≤ 9223372036854775807 := by
  induction n generalizing s with
  | zero => intro x hx; cases hx
  | succ n ih =>
    intro x hx
    rw [rdNs] at hx
    rcases List.mem_cons.1 hx with rfl | hx
    · exact rdI_range s
    · exact ih _ x hx
theorem rdNs_len (n : Nat) (s : RS) : (rdNs n s).1.length = n := by
  induction n generalizing s with
  | zero => rfl
  | succ n ih => rw [rdNs, List.length_cons, ih]
theorem rdInts_inv (l : List UInt8) {us : List Int} {r : List UInt8} (h : rdInts (.ok l) = (us, .ok r)) : l = intsW us ++ r := by
  rw [rdInts] at h
  cases hp : rdL (.ok l) with
  | mk v t =>
    rw [hp] at h
    cases t with
    | error e => cases h
    | ok r' =>
      simp only at h
      cases hq : rdNs v (.ok r') with
      | mk ys t2 =>
        rw [hq] at h
        cases t2 with
        | error e => cases h
        | ok r2 =>
          cases h
          obtain ⟨h1, h2⟩ := rdL_inv l hp
          obtain ⟨h3, h4⟩ := rdNs_inv v r' hq
          rw [h1, h4, intsW, h3, List.append_assoc]
end Go.Proofs.Ytpehnggglolnoaa
