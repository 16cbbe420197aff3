/- Disks, plainly: what every disk is, what a crash leaves. -/
import Derived.Test.YtpehnggglolnoaaGreatDskL
import Derived.Test.YtpehnggglolnoaaGreatMdC
namespace Go.Proofs.YtpehnggglolnoaaGreat
open Go.RowKit


/-- Some of the loose bytes are gone. -/
def CutOf (D E : Dk) : Prop := ∀ k, (E.fs k).2 = (D.fs k).2 ∧ ∃ t, t ≤ (D.fs k).1.length - (D.fs k).2 ∧ (E.fs k).1 = (D.fs k).1.take ((D.fs k).2 + t)
theorem CutOf.refl {D : Dk} (h : DOk D) : CutOf D D := fun k => ⟨rfl, (D.fs k).1.length - (D.fs k).2, Nat.le_refl _, by
  have := h.dur k
  rw [List.take_of_length_le (by omega)]⟩
theorem cutI_of {D : Dk} (h : DOk D) (keep fl : List Int) : ∀ i, CutOf D (D.cutI keep fl i).1
  | 0 => CutOf.refl h
  | i + 1 => fun k => by
    have ih := cutI_of h keep fl i
    show (((D.cutI keep fl i).1.put _ _ _).fs k).2 = _ ∧ _
    have hd := h.dur k
    by_cases e : k = fl[i]?.getD 0
    · rw [← e]
      obtain ⟨h1, t, ht, h2⟩ := ih k
      generalize hE : (D.cutI keep fl i).1 = E at h1 h2 ⊢
      have hk := keptN_le keep i ((E.fs k).1.length - (E.fs k).2)
      obtain ⟨s, hs⟩ : ∃ s, keptN keep i ((E.fs k).1.length - (E.fs k).2) = s := ⟨_, rfl⟩
      have hb : ((Dk.cutI D keep fl (i + 1)).1.fs k).1 = (E.fs k).1.take ((E.fs k).2 + s) := by
        show (((D.cutI keep fl i).1.put _ _ _).fs k).1 = _
        rw [← e, hE, hs, put_fs0]
      have hlen : (E.fs k).1.length = (D.fs k).2 + t := by rw [h2, List.length_take]; omega
      rw [hs] at hk ⊢
      refine ⟨?_, s, by omega, ?_⟩
      · rw [put_fs0]
        show (if _ then _ else _) = _
        split
        · rename_i e2
          have e3 := congrArg List.length e2
          rw [List.length_take, List.length_nil] at e3
          omega
        · exact h1
      · rw [hb, h1, h2, List.take_take]
        congr 1
        omega
    · rw [put_fs1 _ _ _ e]
      have : ((Dk.cutI D keep fl (i + 1)).1.fs k) = ((D.cutI keep fl i).1.fs k) := by
        show (((D.cutI keep fl i).1.put _ _ _).fs k) = _
        rw [put_fs1 _ _ _ e]
      rw [this]
      exact ih k
/-- A bit is inverted, or none. -/
theorem invertL_of (E : Dk) : ∀ (l : List Int) (n : Nat), E.invertL l n = E ∨ ∃ k ∈ l, ∃ m, 8 * (E.fs k).2 ≤ m ∧ m < 8 * (E.fs k).1.length ∧ E.invertL l n = E.put k (flipB (E.fs k).1 m) (E.fs k).2
  | [], _ => .inl rfl
  | k :: l, n => by
    rw [Dk.invertL]
    split
    · rename_i h
      exact .inr ⟨k, by simp, 8 * (E.fs k).2 + n, by omega, by omega, rfl⟩
    · rcases invertL_of E l (n - 8 * ((E.fs k).1.length - (E.fs k).2)) with h | ⟨j, hj, m, h1, h2, h3⟩
      · exact .inl h
      · exact .inr ⟨j, by simp [hj], m, h1, h2, h3⟩
theorem flipB_take (b : List UInt8) {n d : Nat} (h : 8 * d ≤ n) : (flipB b n).take d = b.take d := by
  apply List.ext_getElem?
  intro j
  rw [List.getElem?_take, List.getElem?_take]
  split
  · have hne : ¬ n / 8 = j := by omega
    unfold flipB
    rw [List.getElem?_modify]
    simp [hne]
  · rfl
/-- What a crash leaves of a file: what was durable, and no more than there was. -/
theorem crash_keeps {D : Dk} (h : DOk D) (keep : List Int) (flip : Int) (k : Int) :
    (D.fs k).2 ≤ ((D.crash keep flip).fs k).1.length ∧ ((D.crash keep flip).fs k).1.length ≤ (D.fs k).1.length ∧ ((D.crash keep flip).fs k).1.take (D.fs k).2 = (D.fs k).1.take (D.fs k).2 := by
  obtain ⟨E, hE⟩ : ∃ E, (D.cutI keep D.files D.files.length).1 = E := ⟨_, rfl⟩
  obtain ⟨s, hs⟩ : ∃ s, (D.cutI keep D.files D.files.length).2 = s := ⟨_, rfl⟩
  have hc := cutI_of h keep D.files D.files.length k
  rw [hE] at hc
  obtain ⟨h1, t, ht, h2⟩ := hc
  have hd := h.dur k
  have hfs : ((D.crash keep flip).fs k).1 = ((if 0 ≤ flip ∧ 0 < s then E.invertL E.files (flip.toNat % (8 * s)) else E).fs k).1 := by
    rw [← hE, ← hs]
    rfl
  rw [hfs]
  have base : (D.fs k).2 ≤ (E.fs k).1.length ∧ (E.fs k).1.length ≤ (D.fs k).1.length ∧ (E.fs k).1.take (D.fs k).2 = (D.fs k).1.take (D.fs k).2 := by
    rw [h2]
    refine ⟨by rw [List.length_take]; omega, by rw [List.length_take]; omega, ?_⟩
    rw [List.take_take]
    congr 1
    omega
  split
  · rcases invertL_of E E.files (flip.toNat % (8 * s)) with h3 | ⟨j, _, m, h4, h5, h6⟩
    · rw [h3]; exact base
    · rw [h6]
      by_cases e : k = j
      · subst e
        rw [put_fs0]
        show _ ≤ (flipB _ _).length ∧ (flipB _ _).length ≤ _ ∧ (flipB _ _).take _ = _
        rw [flipB_len, flipB_take _ (by rw [← h1]; exact h4)]
        exact base
      · rw [put_fs1 _ _ _ e]
        exact base
  · exact base
theorem crash_on (D : Dk) (keep : List Int) (flip : Int) : (D.crash keep flip).off = false := rfl
/-- A disk on which all is durable. -/
theorem crash_same {D : Dk} (h : DOk D) (hd : ∀ k, (D.fs k).2 = (D.fs k).1.length) (keep : List Int) (flip : Int) (k : Int) : ((D.crash keep flip).fs k).1 = (D.fs k).1 := by
  obtain ⟨h1, h2, h3⟩ := crash_keeps h keep flip k
  rw [hd k] at h1 h3
  rw [List.take_of_length_le h2, List.take_of_length_le (Nat.le_refl _)] at h3
  exact h3
/-- What is appended lies behind. -/
structure ExtOf (D E : Dk) : Prop where
  on : E.off = false
  armed : E.armed = false
  dur : ∀ k, (E.fs k).2 = (D.fs k).2
  pre : ∀ k, (D.fs k).1 <+: (E.fs k).1
theorem ExtOf.append {D E : Dk} (h : ExtOf D E) (hE : DOk E) (k : Int) (b : List UInt8) : ExtOf D (E.append k b).2 := by
  unfold Dk.append
  split
  · exact h
  · split
    · exact h
    · split
      · exact h
      · have hf : E.fails = E := by unfold Dk.fails; rw [h.armed]; rfl
        rw [hf]
        refine ⟨h.on, h.armed, fun j => ?_, fun j => ?_⟩
        · by_cases e : j = k
          · subst e
            show ((E.put j _ _).fs j).2 = _
            rw [put_fs0]
            show (if _ then _ else _) = _
            split
            · rename_i e2
              have := hE.dur j
              rw [(List.append_eq_nil_iff.1 e2).1, List.length_nil] at this
              rw [← h.dur j]
              omega
            · exact h.dur j
          · show ((E.put k _ _).fs j).2 = _
            rw [put_fs1 _ _ _ e]
            exact h.dur j
        · by_cases e : j = k
          · subst e
            show _ <+: ((E.put j _ _).fs j).1
            rw [put_fs0]
            exact (h.pre j).trans (List.prefix_append _ _)
          · show _ <+: ((E.put k _ _).fs j).1
            rw [put_fs1 _ _ _ e]
            exact h.pre j
theorem rv_cut {W : World} {a : Option Addr} {n c : Nat} {l : List UInt8} (h : Rv W (.slice a n c) n (l.map vB)) (s : Nat) (hs : s ≤ n) : Rv W (.slice a s c) s ((l.take s).map vB) := by
  obtain ⟨ao, cap, e, _, hF⟩ := h.firsts s hs
  injection e with e1 e2 e3
  subst e1 e3
  rw [List.map_take]
  exact hF s rfl
theorem rv_piece {W : World} {g n c : Nat} {us : List Value} (h : Rv W (.slice (some ⟨g, 0, none⟩) n c) n us) (o t : Nat) (h1 : o ≤ t) (h2 : t ≤ n) (h3 : ¬ c = o) : Rv W (.slice (some ⟨g, o, none⟩) (t - o) (c - o)) (t - o) ((us.drop o).take (t - o)) := by
  obtain ⟨ao, cap, e, _, hr⟩ := h.sliced 1 o t h1 h2
  injection e with e1 e2 e3
  subst e1 e3
  rw [if_neg h3] at hr
  have e : (some (⟨g, 0, none⟩ : Addr)).map (·.add (o * 1)) = some ⟨g, o, none⟩ := by
    simp only [Option.map_some, Nat.mul_one, Addr.add]
    by_cases h0 : o = 0
    · subst h0; simp
    · simp [h0]
  rw [e, Nat.mul_one, Nat.mul_one] at hr
  exact hr
theorem append_other (D : Dk) (k : Int) (b : List UInt8) (j : Int) (h : j ≠ k) : (D.append k b).2.fs j = D.fs j := by
  unfold Dk.append
  split
  · rfl
  · split
    · rfl
    · split
      · rfl
      · show (D.fails.put k _ _).fs j = _
        rw [put_fs1 _ _ _ h, (fails_fs D).1]
theorem append_ok {D : Dk} (hD : DOk D) (k : Int) (b : List UInt8) (ha : D.armed = false) : DOk (D.append k b).2 := by
  have hf : D.fails = D := by unfold Dk.fails; rw [ha]; rfl
  unfold Dk.append
  split
  · exact hD
  · rename_i hk
    split
    · exact hD
    · split
      · exact hD
      · rename_i hr
        have hk2 : 0 ≤ k ∧ k < 64 := Decidable.byContradiction hk
        rw [hf]
        have hd := hD.dur k
        refine put_ok hD hk2 (by rw [List.length_append]; omega) ?_
        have := D.used_put k ((D.fs k).1 ++ b) (D.fs k).2 hk2.1 hk2.2
        rw [List.length_append] at this
        omega
/-- What is read after the crash, against what was there at the Sync. -/
theorem crash_ext {H E : Dk} (hE : DOk E) (h : ExtOf H E) (hd : ∀ k, (H.fs k).2 = (H.fs k).1.length) (keep : List Int) (flip : Int) (k : Int) :
    (H.fs k).1.length ≤ ((E.crash keep flip).fs k).1.length ∧ ((E.crash keep flip).fs k).1.length ≤ (E.fs k).1.length ∧ ((E.crash keep flip).fs k).1.take (H.fs k).1.length = (H.fs k).1 := by
  obtain ⟨h1, h2, h3⟩ := crash_keeps hE keep flip k
  rw [h.dur k, hd k] at h1 h3
  refine ⟨h1, h2, ?_⟩
  rw [h3]
  obtain ⟨t, ht⟩ := h.pre k
  rw [← ht, List.take_left]
/-- An Append that fits. -/
theorem app_fits {D : Dk} (k : Int) (b : List UInt8) (hk : 0 ≤ k ∧ k < 64) (ho : D.off = false) (ha : D.armed = false) (hu : (D.used : Int) + b.length ≤ D.room) : D.append k b = (0, D.put k ((D.fs k).1 ++ b) (D.fs k).2) := by
  have hf : D.fails = D := by unfold Dk.fails; rw [ha]; rfl
  have hb : D.failsB = false := by unfold Dk.failsB; rw [ha]; rfl
  unfold Dk.append
  rw [if_neg (fun h => h hk), ho, if_neg (by simp), if_neg (by omega), hb, hf]
  rfl
def Only (D : Dk) (k : Int) : Prop := ∀ j, j ≠ k → (D.fs j).1 = []
theorem only_files {D : Dk} {k : Int} (h : Only D k) (hk : 0 ≤ k ∧ k < 64) (hne : (D.fs k).1 ≠ []) : D.files = [k] := by
  have hp : D.files.Perm [k] := (List.perm_ext_iff_of_nodup (files_nodup D) (by simp)).2 (fun j => by
    rw [files_mem, List.mem_singleton]
    constructor
    · rintro ⟨_, _, h3⟩
      exact Decidable.byContradiction fun e => h3 (h j e)
    · rintro rfl
      exact ⟨hk.1, hk.2, hne⟩)
  exact List.perm_singleton.1 hp
theorem only_files0 {D : Dk} {k : Int} (h : Only D k) (hne : (D.fs k).1 = []) : D.files = [] := by
  refine List.eq_nil_iff_forall_not_mem.2 (fun j hj => ?_)
  obtain ⟨_, _, h3⟩ := (files_mem D j).1 hj
  by_cases e : j = k
  · subst e; exact h3 hne
  · exact h3 (h j e)
/-- What a crash leaves of a disk's only file. -/
theorem crash_one {D : Dk} (h : DOk D) {k : Int} (ho : Only D k) (hk : 0 ≤ k ∧ k < 64) {bs : List UInt8} {d t : Nat} (hb : (D.fs k).1 = bs) (hd : (D.fs k).2 = d) (keep : List Int) (ht : keptN keep 0 (bs.length - d) = t) (flip : Int) :
    ((D.crash keep flip).fs k).1 = if 0 ≤ flip ∧ 0 < t then flipB (bs.take (d + t)) (8 * d + flip.toNat % (8 * t)) else bs.take (d + t) := by
  have hdl := h.dur k
  rw [hb, hd] at hdl
  have htl := keptN_le keep 0 (bs.length - d)
  rw [ht] at htl
  by_cases hne : bs = []
  · subst hne
    have hf := only_files0 ho hb
    have h1 : ((D.crash keep flip).fs k).1 = (D.fs k).1 := by
      have hc : D.cutI keep [] 0 = (D, 0) := rfl
      unfold Dk.crash
      rw [hf]
      show ((if 0 ≤ flip ∧ 0 < (D.cutI keep [] 0).2 then (D.cutI keep [] 0).1.invertL (D.cutI keep [] 0).1.files (flip.toNat % (8 * (D.cutI keep [] 0).2)) else (D.cutI keep [] 0).1).fs k).1 = _
      rw [hc, if_neg (by omega)]
    rw [h1, hb, if_neg (by rw [List.length_nil] at htl; omega), List.take_nil]
  · have hf := only_files ho hk (by rw [hb]; exact hne)
    have hc : D.cutI keep [k] 1 = (D.put k (bs.take (d + t)) d, 0 + t) := by
      show Prod.mk (D.put k ((D.fs k).1.take ((D.fs k).2 + keptN keep 0 ((D.fs k).1.length - (D.fs k).2))) (D.fs k).2) (0 + keptN keep 0 ((D.fs k).1.length - (D.fs k).2)) = _
      rw [hb, hd, ht]
    have hcr : ((D.crash keep flip).fs k).1 = ((if 0 ≤ flip ∧ 0 < 0 + t then (D.put k (bs.take (d + t)) d).invertL (D.put k (bs.take (d + t)) d).files (flip.toNat % (8 * (0 + t))) else D.put k (bs.take (d + t)) d).fs k).1 := by
      unfold Dk.crash
      rw [hf]
      show ((if 0 ≤ flip ∧ 0 < (D.cutI keep [k] 1).2 then (D.cutI keep [k] 1).1.invertL (D.cutI keep [k] 1).1.files (flip.toNat % (8 * (D.cutI keep [k] 1).2)) else (D.cutI keep [k] 1).1).fs k).1 = _
      rw [hc]
    rw [hcr, Nat.zero_add]
    by_cases hfl : 0 ≤ flip ∧ 0 < t
    · rw [if_pos hfl, if_pos hfl]
      have hlen : (bs.take (d + t)).length = d + t := by rw [List.length_take]; omega
      have hne2 : bs.take (d + t) ≠ [] := fun e => by rw [e, List.length_nil] at hlen; omega
      have ho2 : Only (D.put k (bs.take (d + t)) d) k := fun j hj => by rw [put_fs1 _ _ _ hj]; exact ho j hj
      have hf2 := only_files ho2 hk (by rw [put_fs0]; exact hne2)
      rw [hf2, Dk.invertL, put_fs0]
      have hm := Nat.mod_lt flip.toNat (show 0 < 8 * t by omega)
      simp only [if_neg hne2, hlen]
      rw [if_pos (by omega), put_fs0]
    · rw [if_neg hfl, if_neg hfl, put_fs0]
end Go.Proofs.YtpehnggglolnoaaGreat
