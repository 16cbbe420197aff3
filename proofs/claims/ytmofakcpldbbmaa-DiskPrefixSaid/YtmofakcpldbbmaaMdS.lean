/- What a crash leaves, plainly. -/
import Derived.Test.YtmofakcpldbbmaaMdQ
namespace Go.Proofs.Ytmofakcpldbbmaa
open Go.RowKit

/-- Some of the loose bytes are gone. -/
def CutOf (D E : Dk) : Prop := ∀ k, (E.fs k).2 = (D.fs k).2 ∧ ∃ t, t ≤ (D.fs k).1.length - (D.fs k).2 ∧ (E.fs k).1 = (D.fs k).1.take ((D.fs k).2 + t)
theorem CutOf.refl {D : Dk} (h : DOk D) : CutOf D D := fun k => ⟨rfl, (D.fs k).1.length - (D.fs k).2, Nat.le_refl _, by
  have := h.dur k
  rw [List.take_of_length_le (by omega)]⟩
theorem cutI_of {D : Dk} (h : DOk D) (keep fl : List Int) : ∀ i, CutOf D (D.cutI keep fl i).1
  | 0 => CutOf.refl h
  | i + 1 => fun k => by
    have ih := cutI_of h keep fl i
    show (((D.cutI keep fl i).1.put _ _ _).fs k).2 = _ ∧ _
    have hd := h.dur k
    by_cases e : k = fl[i]?.getD 0
    · rw [← e]
      obtain ⟨h1, t, ht, h2⟩ := ih k
      generalize hE : (D.cutI keep fl i).1 = E at h1 h2 ⊢
      have hk := keptN_le keep i ((E.fs k).1.length - (E.fs k).2)
      obtain ⟨s, hs⟩ : ∃ s, keptN keep i ((E.fs k).1.length - (E.fs k).2) = s := ⟨_, rfl⟩
      have hb : ((Dk.cutI D keep fl (i + 1)).1.fs k).1 = (E.fs k).1.take ((E.fs k).2 + s) := by
        show (((D.cutI keep fl i).1.put _ _ _).fs k).1 = _
        rw [← e, hE, hs, put_fs0]
      have hlen : (E.fs k).1.length = (D.fs k).2 + t := by rw [h2, List.length_take]; omega
      rw [hs] at hk ⊢
      refine ⟨?_, s, by omega, ?_⟩
      · rw [put_fs0]
        show (if _ then _ else _) = _
        split
        · rename_i e2
          have e3 := congrArg List.length e2
          rw [List.length_take, List.length_nil] at e3
          omega
        · exact h1
      · rw [hb, h1, h2, List.take_take]
        congr 1
        omega
    · rw [put_fs1 _ _ _ e]
      have : ((Dk.cutI D keep fl (i + 1)).1.fs k) = ((D.cutI keep fl i).1.fs k) := by
        show (((D.cutI keep fl i).1.put _ _ _).fs k) = _
        rw [put_fs1 _ _ _ e]
      rw [this]
      exact ih k
/-- A bit is inverted, or none. -/
theorem invertL_of (E : Dk) : ∀ (l : List Int) (n : Nat), E.invertL l n = E ∨ ∃ k ∈ l, ∃ m, 8 * (E.fs k).2 ≤ m ∧ m < 8 * (E.fs k).1.length ∧ E.invertL l n = E.put k (flipB (E.fs k).1 m) (E.fs k).2
  | [], _ => .inl rfl
  | k :: l, n => by
    rw [Dk.invertL]
    split
    · rename_i h
      exact .inr ⟨k, by simp, 8 * (E.fs k).2 + n, by omega, by omega, rfl⟩
    · rcases invertL_of E l (n - 8 * ((E.fs k).1.length - (E.fs k).2)) with h | ⟨j, hj, m, h1, h2, h3⟩
      · exact .inl h
      · exact .inr ⟨j, by simp [hj], m, h1, h2, h3⟩
theorem flipB_take (b : List UInt8) {n d : Nat} (h : 8 * d ≤ n) : (flipB b n).take d = b.take d := by
  apply List.ext_getElem?
  intro j
  rw [List.getElem?_take, List.getElem?_take]
  split
  · have hne : ¬ n / 8 = j := by omega
    unfold flipB
    rw [List.getElem?_modify]
    simp [hne]
  · rfl
/-- What a crash leaves of a file: what was durable, and no more than there was. -/
theorem crash_keeps {D : Dk} (h : DOk D) (keep : List Int) (flip : Int) (k : Int) :
    (D.fs k).2 ≤ ((D.crash keep flip).fs k).1.length ∧ ((D.crash keep flip).fs k).1.length ≤ (D.fs k).1.length ∧ ((D.crash keep flip).fs k).1.take (D.fs k).2 = (D.fs k).1.take (D.fs k).2 := by
  obtain ⟨E, hE⟩ : ∃ E, (D.cutI keep D.files D.files.length).1 = E := ⟨_, rfl⟩
  obtain ⟨s, hs⟩ : ∃ s, (D.cutI keep D.files D.files.length).2 = s := ⟨_, rfl⟩
  have hc := cutI_of h keep D.files D.files.length k
  rw [hE] at hc
  obtain ⟨h1, t, ht, h2⟩ := hc
  have hd := h.dur k
  have hfs : ((D.crash keep flip).fs k).1 = ((if 0 ≤ flip ∧ 0 < s then E.invertL E.files (flip.toNat % (8 * s)) else E).fs k).1 := by
    rw [← hE, ← hs]
    rfl
  rw [hfs]
  have base : (D.fs k).2 ≤ (E.fs k).1.length ∧ (E.fs k).1.length ≤ (D.fs k).1.length ∧ (E.fs k).1.take (D.fs k).2 = (D.fs k).1.take (D.fs k).2 := by
    rw [h2]
    refine ⟨by rw [List.length_take]; omega, by rw [List.length_take]; omega, ?_⟩
    rw [List.take_take]
    congr 1
    omega
  split
  · rcases invertL_of E E.files (flip.toNat % (8 * s)) with h3 | ⟨j, _, m, h4, h5, h6⟩
    · rw [h3]; exact base
    · rw [h6]
      by_cases e : k = j
      · subst e
        rw [put_fs0]
        show _ ≤ (flipB _ _).length ∧ (flipB _ _).length ≤ _ ∧ (flipB _ _).take _ = _
        rw [flipB_len, flipB_take _ (by rw [← h1]; exact h4)]
        exact base
      · rw [put_fs1 _ _ _ e]
        exact base
  · exact base
theorem crash_on (D : Dk) (keep : List Int) (flip : Int) : (D.crash keep flip).off = false := rfl
/-- A disk on which all is durable. -/
theorem crash_same {D : Dk} (h : DOk D) (hd : ∀ k, (D.fs k).2 = (D.fs k).1.length) (keep : List Int) (flip : Int) (k : Int) : ((D.crash keep flip).fs k).1 = (D.fs k).1 := by
  obtain ⟨h1, h2, h3⟩ := crash_keeps h keep flip k
  rw [hd k] at h1 h3
  rw [List.take_of_length_le h2, List.take_of_length_le (Nat.le_refl _)] at h3
  exact h3
/-- What is appended lies behind. -/
structure ExtOf (D E : Dk) : Prop where
  on : E.off = false
  armed : E.armed = false
  dur : ∀ k, (E.fs k).2 = (D.fs k).2
  pre : ∀ k, (D.fs k).1 <+: (E.fs k).1
theorem ExtOf.append {D E : Dk} (h : ExtOf D E) (hE : DOk E) (k : Int) (b : List UInt8) : ExtOf D (E.append k b).2 := by
  unfold Dk.append
  split
  · exact h
  · split
    · exact h
    · split
      · exact h
      · have hf : E.fails = E := by unfold Dk.fails; rw [h.armed]; rfl
        rw [hf]
        refine ⟨h.on, h.armed, fun j => ?_, fun j => ?_⟩
        · by_cases e : j = k
          · subst e
            show ((E.put j _ _).fs j).2 = _
            rw [put_fs0]
            show (if _ then _ else _) = _
            split
            · rename_i e2
              have := hE.dur j
              rw [(List.append_eq_nil_iff.1 e2).1, List.length_nil] at this
              rw [← h.dur j]
              omega
            · exact h.dur j
          · show ((E.put k _ _).fs j).2 = _
            rw [put_fs1 _ _ _ e]
            exact h.dur j
        · by_cases e : j = k
          · subst e
            show _ <+: ((E.put j _ _).fs j).1
            rw [put_fs0]
            exact (h.pre j).trans (List.prefix_append _ _)
          · show _ <+: ((E.put k _ _).fs j).1
            rw [put_fs1 _ _ _ e]
            exact h.pre j
end Go.Proofs.Ytmofakcpldbbmaa
