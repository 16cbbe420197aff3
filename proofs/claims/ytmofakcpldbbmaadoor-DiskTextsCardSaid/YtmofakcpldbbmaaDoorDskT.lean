/- Texts on a disk: what a crash leaves, plainly. -/
import Derived.Test.YtmofakcpldbbmaaDoorDskM
namespace Go.Proofs.YtmofakcpldbbmaaDoor
open Go.RowKit

/-- What every disk is. -/
structure DOk (D : Dk) : Prop where
  out : ∀ k : Int, ¬ (0 ≤ k ∧ k < 64) → D.fs k = ([], 0)
  dur : ∀ k, (D.fs k).2 ≤ (D.fs k).1.length
  room : 0 ≤ D.room ∧ D.room ≤ 16777216
  used : (D.used : Int) ≤ D.room
  left : D.left ≤ 9223372036854775807
theorem DiskX.ok {ex : Int → Prop} {w : World} {p mb : Nat} {F : Int → Option Value} {ks : List Int} {X : Nat → Prop} {D : Dk} (h : DiskX ex w p mb F ks X D) : DOk D := by
  refine ⟨fun k hk => ?_, h.dur, h.room, h.used, h.left⟩
  have he : (D.fs k).1 = [] := Decidable.byContradiction fun he => hk ⟨(h.ful k he).1, (h.ful k he).2.1⟩
  rw [← Prod.eta (D.fs k), he, (h.emp k he).2]
theorem DAt.ok {w : World} {p : Nat} {X : Nat → Prop} {D : Dk} (h : DAt w p X D) : DOk D := by obtain ⟨_, _, _, h⟩ := h; exact h.ok
theorem put_ok {D : Dk} (h : DOk D) {k : Int} (hk : 0 ≤ k ∧ k < 64) {b : List UInt8} {d : Nat} (hd : d ≤ b.length) (hu : ((D.put k b d).used : Int) ≤ D.room) : DOk (D.put k b d) := by
  refine ⟨fun j hj => ?_, fun j => ?_, h.room, hu, h.left⟩
  · have : ¬ j = k := fun e => hj (e ▸ hk)
    simp only [Dk.put, if_neg this]
    exact h.out j hj
  · by_cases e : j = k
    · subst e
      simp only [Dk.put, if_true]
      show (if b = [] then 0 else d) ≤ b.length
      split <;> omega
    · simp only [Dk.put, if_neg e]
      exact h.dur j
theorem put_fs0 (D : Dk) (k : Int) (b : List UInt8) (d : Nat) : (D.put k b d).fs k = (b, if b = [] then 0 else d) := by simp [Dk.put]
theorem put_fs1 (D : Dk) {k j : Int} (b : List UInt8) (d : Nat) (h : j ≠ k) : (D.put k b d).fs j = D.fs j := by simp [Dk.put, h]

/-- Some of the loose bytes are gone. -/
def CutOf (D E : Dk) : Prop := ∀ k, (E.fs k).2 = (D.fs k).2 ∧ ∃ t, t ≤ (D.fs k).1.length - (D.fs k).2 ∧ (E.fs k).1 = (D.fs k).1.take ((D.fs k).2 + t)
theorem CutOf.refl {D : Dk} (h : DOk D) : CutOf D D := fun k => ⟨rfl, (D.fs k).1.length - (D.fs k).2, Nat.le_refl _, by
  have := h.dur k
  rw [List.take_of_length_le (by omega)]⟩
theorem cutI_of {D : Dk} (h : DOk D) (keep fl : List Int) : ∀ i, CutOf D (D.cutI keep fl i).1
  | 0 => CutOf.refl h
  | i + 1 => fun k => by
    have ih := cutI_of h keep fl i
    show (((D.cutI keep fl i).1.put _ _ _).fs k).2 = _ ∧ _
    have hd := h.dur k
    by_cases e : k = fl[i]?.getD 0
    · rw [← e]
      obtain ⟨h1, t, ht, h2⟩ := ih k
      generalize hE : (D.cutI keep fl i).1 = E at h1 h2 ⊢
      have hk := keptN_le keep i ((E.fs k).1.length - (E.fs k).2)
      obtain ⟨s, hs⟩ : ∃ s, keptN keep i ((E.fs k).1.length - (E.fs k).2) = s := ⟨_, rfl⟩
      have hb : ((Dk.cutI D keep fl (i + 1)).1.fs k).1 = (E.fs k).1.take ((E.fs k).2 + s) := by
        show (((D.cutI keep fl i).1.put _ _ _).fs k).1 = _
        rw [← e, hE, hs, put_fs0]
      have hlen : (E.fs k).1.length = (D.fs k).2 + t := by rw [h2, List.length_take]; omega
      rw [hs] at hk ⊢
      refine ⟨?_, s, by omega, ?_⟩
      · rw [put_fs0]
        show (if _ then _ else _) = _
        split
        · rename_i e2
          have e3 := congrArg List.length e2
          rw [List.length_take, List.length_nil] at e3
          omega
        · exact h1
      · rw [hb, h1, h2, List.take_take]
        congr 1
        omega
    · rw [put_fs1 _ _ _ e]
      have : ((Dk.cutI D keep fl (i + 1)).1.fs k) = ((D.cutI keep fl i).1.fs k) := by
        show (((D.cutI keep fl i).1.put _ _ _).fs k) = _
        rw [put_fs1 _ _ _ e]
      rw [this]
      exact ih k
/-- A bit is inverted, or none. -/
theorem invertL_of (E : Dk) : ∀ (l : List Int) (n : Nat), E.invertL l n = E ∨ ∃ k ∈ l, ∃ m, 8 * (E.fs k).2 ≤ m ∧ m < 8 * (E.fs k).1.length ∧ E.invertL l n = E.put k (flipB (E.fs k).1 m) (E.fs k).2
  | [], _ => .inl rfl
  | k :: l, n => by
    rw [Dk.invertL]
    split
    · rename_i h
      exact .inr ⟨k, by simp, 8 * (E.fs k).2 + n, by omega, by omega, rfl⟩
    · rcases invertL_of E l (n - 8 * ((E.fs k).1.length - (E.fs k).2)) with h | ⟨j, hj, m, h1, h2, h3⟩
      · exact .inl h
      · exact .inr ⟨j, by simp [hj], m, h1, h2, h3⟩
theorem flipB_take (b : List UInt8) {n d : Nat} (h : 8 * d ≤ n) : (flipB b n).take d = b.take d := by
  apply List.ext_getElem?
  intro j
  rw [List.getElem?_take, List.getElem?_take]
  split
  · have hne : ¬ n / 8 = j := by omega
    unfold flipB
    rw [List.getElem?_modify]
    simp [hne]
  · rfl
/-- What a crash leaves of a file: what was durable, and no more than there was. -/
theorem crash_keeps {D : Dk} (h : DOk D) (keep : List Int) (flip : Int) (k : Int) :
    (D.fs k).2 ≤ ((D.crash keep flip).fs k).1.length ∧ ((D.crash keep flip).fs k).1.length ≤ (D.fs k).1.length ∧ ((D.crash keep flip).fs k).1.take (D.fs k).2 = (D.fs k).1.take (D.fs k).2 := by
  obtain ⟨E, hE⟩ : ∃ E, (D.cutI keep D.files D.files.length).1 = E := ⟨_, rfl⟩
  obtain ⟨s, hs⟩ : ∃ s, (D.cutI keep D.files D.files.length).2 = s := ⟨_, rfl⟩
  have hc := cutI_of h keep D.files D.files.length k
  rw [hE] at hc
  obtain ⟨h1, t, ht, h2⟩ := hc
  have hd := h.dur k
  have hfs : ((D.crash keep flip).fs k).1 = ((if 0 ≤ flip ∧ 0 < s then E.invertL E.files (flip.toNat % (8 * s)) else E).fs k).1 := by
    rw [← hE, ← hs]
    rfl
  rw [hfs]
  have base : (D.fs k).2 ≤ (E.fs k).1.length ∧ (E.fs k).1.length ≤ (D.fs k).1.length ∧ (E.fs k).1.take (D.fs k).2 = (D.fs k).1.take (D.fs k).2 := by
    rw [h2]
    refine ⟨by rw [List.length_take]; omega, by rw [List.length_take]; omega, ?_⟩
    rw [List.take_take]
    congr 1
    omega
  split
  · rcases invertL_of E E.files (flip.toNat % (8 * s)) with h3 | ⟨j, _, m, h4, h5, h6⟩
    · rw [h3]; exact base
    · rw [h6]
      by_cases e : k = j
      · subst e
        rw [put_fs0]
        show _ ≤ (flipB _ _).length ∧ (flipB _ _).length ≤ _ ∧ (flipB _ _).take _ = _
        rw [flipB_len, flipB_take _ (by rw [← h1]; exact h4)]
        exact base
      · rw [put_fs1 _ _ _ e]
        exact base
  · exact base
theorem crash_on (D : Dk) (keep : List Int) (flip : Int) : (D.crash keep flip).off = false := rfl
/-- A disk on which all is durable. -/
theorem crash_same {D : Dk} (h : DOk D) (hd : ∀ k, (D.fs k).2 = (D.fs k).1.length) (keep : List Int) (flip : Int) (k : Int) : ((D.crash keep flip).fs k).1 = (D.fs k).1 := by
  obtain ⟨h1, h2, h3⟩ := crash_keeps h keep flip k
  rw [hd k] at h1 h3
  rw [List.take_of_length_le h2, List.take_of_length_le (Nat.le_refl _)] at h3
  exact h3
/-- What is appended lies behind. -/
structure ExtOf (D E : Dk) : Prop where
  on : E.off = false
  armed : E.armed = false
  dur : ∀ k, (E.fs k).2 = (D.fs k).2
  pre : ∀ k, (D.fs k).1 <+: (E.fs k).1
theorem ExtOf.append {D E : Dk} (h : ExtOf D E) (hE : DOk E) (k : Int) (b : List UInt8) : ExtOf D (E.append k b).2 := by
  unfold Dk.append
  split
  · exact h
  · split
    · exact h
    · split
      · exact h
      · have hf : E.fails = E := by unfold Dk.fails; rw [h.armed]; rfl
        rw [hf]
        refine ⟨h.on, h.armed, fun j => ?_, fun j => ?_⟩
        · by_cases e : j = k
          · subst e
            show ((E.put j _ _).fs j).2 = _
            rw [put_fs0]
            show (if _ then _ else _) = _
            split
            · rename_i e2
              have := hE.dur j
              rw [(List.append_eq_nil_iff.1 e2).1, List.length_nil] at this
              rw [← h.dur j]
              omega
            · exact h.dur j
          · show ((E.put k _ _).fs j).2 = _
            rw [put_fs1 _ _ _ e]
            exact h.dur j
        · by_cases e : j = k
          · subst e
            show _ <+: ((E.put j _ _).fs j).1
            rw [put_fs0]
            exact (h.pre j).trans (List.prefix_append _ _)
          · show _ <+: ((E.put k _ _).fs j).1
            rw [put_fs1 _ _ _ e]
            exact h.pre j
theorem rv_cut {W : World} {a : Option Addr} {n c : Nat} {l : List UInt8} (h : Rv W (.slice a n c) n (l.map vB)) (s : Nat) (hs : s ≤ n) : Rv W (.slice a s c) s ((l.take s).map vB) := by
  obtain ⟨ao, cap, e, _, hF⟩ := h.firsts s hs
  injection e with e1 e2 e3
  subst e1 e3
  rw [List.map_take]
  exact hF s rfl
theorem rv_piece {W : World} {g n c : Nat} {us : List Value} (h : Rv W (.slice (some ⟨g, 0, none⟩) n c) n us) (o t : Nat) (h1 : o ≤ t) (h2 : t ≤ n) (h3 : ¬ c = o) : Rv W (.slice (some ⟨g, o, none⟩) (t - o) (c - o)) (t - o) ((us.drop o).take (t - o)) := by
  obtain ⟨ao, cap, e, _, hr⟩ := h.sliced 1 o t h1 h2
  injection e with e1 e2 e3
  subst e1 e3
  rw [if_neg h3] at hr
  have e : (some (⟨g, 0, none⟩ : Addr)).map (·.add (o * 1)) = some ⟨g, o, none⟩ := by
    simp only [Option.map_some, Nat.mul_one, Addr.add]
    by_cases h0 : o = 0
    · subst h0; simp
    · simp [h0]
  rw [e, Nat.mul_one, Nat.mul_one] at hr
  exact hr
theorem append_other (D : Dk) (k : Int) (b : List UInt8) (j : Int) (h : j ≠ k) : (D.append k b).2.fs j = D.fs j := by
  unfold Dk.append
  split
  · rfl
  · split
    · rfl
    · split
      · rfl
      · show (D.fails.put k _ _).fs j = _
        rw [put_fs1 _ _ _ h, (fails_fs D).1]
theorem append_ok {D : Dk} (hD : DOk D) (k : Int) (b : List UInt8) (ha : D.armed = false) : DOk (D.append k b).2 := by
  have hf : D.fails = D := by unfold Dk.fails; rw [ha]; rfl
  unfold Dk.append
  split
  · exact hD
  · rename_i hk
    split
    · exact hD
    · split
      · exact hD
      · rename_i hr
        have hk2 : 0 ≤ k ∧ k < 64 := Decidable.byContradiction hk
        rw [hf]
        have hd := hD.dur k
        refine put_ok hD hk2 (by rw [List.length_append]; omega) ?_
        have := D.used_put k ((D.fs k).1 ++ b) (D.fs k).2 hk2.1 hk2.2
        rw [List.length_append] at this
        omega
/-- What is read after the crash, against what was there at the Sync. -/
theorem crash_ext {H E : Dk} (hE : DOk E) (h : ExtOf H E) (hd : ∀ k, (H.fs k).2 = (H.fs k).1.length) (keep : List Int) (flip : Int) (k : Int) :
    (H.fs k).1.length ≤ ((E.crash keep flip).fs k).1.length ∧ ((E.crash keep flip).fs k).1.length ≤ (E.fs k).1.length ∧ ((E.crash keep flip).fs k).1.take (H.fs k).1.length = (H.fs k).1 := by
  obtain ⟨h1, h2, h3⟩ := crash_keeps hE keep flip k
  rw [h.dur k, hd k] at h1 h3
  refine ⟨h1, h2, ?_⟩
  rw [h3]
  obtain ⟨t, ht⟩ := h.pre k
  rw [← ht, List.take_left]
/-- An Append that fits. -/
theorem app_fits {D : Dk} (k : Int) (b : List UInt8) (hk : 0 ≤ k ∧ k < 64) (ho : D.off = false) (ha : D.armed = false) (hu : (D.used : Int) + b.length ≤ D.room) : D.append k b = (0, D.put k ((D.fs k).1 ++ b) (D.fs k).2) := by
  have hf : D.fails = D := by unfold Dk.fails; rw [ha]; rfl
  have hb : D.failsB = false := by unfold Dk.failsB; rw [ha]; rfl
  unfold Dk.append
  rw [if_neg (fun h => h hk), ho, if_neg (by simp), if_neg (by omega), hb, hf]
  rfl
/-- The disk after i files. -/
structure Wrote (x : List UInt8) (i : Nat) (D : Dk) : Prop where
  on : D.off = false
  armed : D.armed = false
  room : D.room = 20000
  used : D.used = i * x.length
  old : ∀ j : Nat, j < i → (D.fs (5 + j)).1 = x
  new : ∀ k : Int, 5 + i ≤ k → (D.fs k).1 = []
theorem wrote_new (x : List UInt8) : Wrote x 0 (newD 20000) := ⟨rfl, rfl, rfl, by rw [Nat.zero_mul]; show sumL (fun _ => 0) 64 = 0; decide, fun _ h => absurd h (Nat.not_lt_zero _), fun _ _ => rfl⟩
theorem Wrote.step {x : List UInt8} {i k : Nat} {D : Dk} (h : Wrote x i D) (hi : i < 2) (hx : x.length ≤ 120) (hk : k ≤ x.length) : Wrote x (i + 1) ((D.append (5 + (i : Int)) (x.take k)).2.append (5 + (i : Int)) (x.drop k)).2 := by
  have hu := h.used
  have hr := h.room
  have hi1 : i * x.length ≤ 120 := by
    have : i * x.length ≤ 1 * x.length := Nat.mul_le_mul_right _ (by omega)
    omega
  have e0 := h.new (5 + (i : Int)) (Int.le_refl _)
  have ht : (x.take k).length = k := by rw [List.length_take]; omega
  have hdl : (x.drop k).length = x.length - k := by rw [List.length_drop]
  rw [app_fits _ _ (by omega) h.on h.armed (by rw [hu, hr, ht]; omega), e0, List.nil_append]
  have u1 := D.used_put (5 + (i : Int)) (x.take k) (D.fs (5 + (i : Int))).2 (by omega) (by omega)
  rw [e0, List.length_nil, ht] at u1
  obtain ⟨E, hE⟩ : ∃ E, D.put (5 + (i : Int)) (x.take k) (D.fs (5 + (i : Int))).2 = E := ⟨_, rfl⟩
  have eo : E.off = false := by rw [← hE]; exact h.on
  have ea : E.armed = false := by rw [← hE]; exact h.armed
  have er : E.room = 20000 := by rw [← hE]; exact h.room
  have ef : (E.fs (5 + (i : Int))).1 = x.take k := by rw [← hE, put_fs0]
  have eg : ∀ j, j ≠ 5 + (i : Int) → E.fs j = D.fs j := fun j hj => by rw [← hE, put_fs1 _ _ _ hj]
  show Wrote x (i + 1) ((D.put (5 + (i : Int)) (x.take k) (D.fs (5 + (i : Int))).2).append _ _).2
  rw [hE] at u1 ⊢
  rw [app_fits _ _ (by omega) eo ea (by rw [er, hdl]; omega), ef, List.take_append_drop]
  have u2 := E.used_put (5 + (i : Int)) x (E.fs (5 + (i : Int))).2 (by omega) (by omega)
  rw [ef, ht] at u2
  refine ⟨eo, ea, er, ?_, fun j hj => ?_, fun j hj => ?_⟩
  · show (E.put _ _ _).used = _
    rw [Nat.succ_mul]
    omega
  · show ((E.put _ _ _).fs _).1 = _
    by_cases e : j = i
    · subst e
      rw [put_fs0]
    · rw [put_fs1 _ _ _ (show (5 + (j : Int)) ≠ 5 + (i : Int) by omega), eg _ (by omega)]
      exact h.old j (by omega)
  · show ((E.put _ _ _).fs _).1 = _
    rw [put_fs1 _ _ _ (by omega), eg _ (by omega)]
    exact h.new j (by omega)
/-- What a synced disk holds after other Appends and a crash. -/
theorem wrote_end {x : List UInt8} {D : Dk} (h : Wrote x 2 D) (hok : DOk D) (a b : List UInt8) (ks : List Int) (flip : Int) (hok2 : DOk ((D.sync.2.append 6 a).2.append 8 b).2) (i : Nat) (hi : i < 2) :
    (((((D.sync.2.append 6 a).2.append 8 b).2.crash ks flip).fs (5 + (i : Int))).1.take x.length = x) ∧ x.length ≤ ((((D.sync.2.append 6 a).2.append 8 b).2.crash ks flip).fs (5 + (i : Int))).1.length ∧
    (i = 0 → ((((D.sync.2.append 6 a).2.append 8 b).2.crash ks flip).fs (5 + (i : Int))).1.length = x.length) ∧ (((D.sync.2.append 6 a).2.append 8 b).2.crash ks flip).off = false := by
  have hs : D.sync.2 = D.harden := by
    have hf : D.fails = D := by unfold Dk.fails; rw [h.armed]; rfl
    have hb : D.failsB = false := by unfold Dk.failsB; rw [h.armed]; rfl
    unfold Dk.sync
    rw [h.on, hb, hf]
    rfl
  rw [hs] at hok2 ⊢
  have hh1 : ∀ k, (D.harden.fs k).2 = (D.harden.fs k).1.length := fun k => rfl
  have hH : DOk D.harden := ⟨fun k hk => by show ((D.fs k).1, (D.fs k).1.length) = _; rw [hok.out k hk]; rfl, fun k => Nat.le_refl _, hok.room, hok.used, hok.left⟩
  have hfx : (D.harden.fs (5 + (i : Int))).1 = x := h.old i hi
  have ho : D.harden.off = false := h.on
  have ha : D.harden.armed = false := h.armed
  obtain ⟨H, hHe⟩ : ∃ H, D.harden = H := ⟨_, rfl⟩
  rw [hHe] at hh1 hH hfx ho ha hok2 ⊢
  have x0 : ExtOf H H := ⟨ho, ha, fun _ => rfl, fun _ => List.prefix_refl _⟩
  have x1 := x0.append hH 6 a
  have hok1 : DOk (H.append 6 a).2 := append_ok hH 6 a ha
  have x2 := x1.append hok1 8 b
  obtain ⟨c1, c2, c3⟩ := crash_ext hok2 x2 hh1 ks flip (5 + (i : Int))
  rw [hfx] at c1 c3
  refine ⟨c3, c1, fun e => ?_, rfl⟩
  subst e
  have f1 : ((H.append 6 a).2.fs 5) = H.fs 5 := append_other H 6 a 5 (by decide)
  have f2 : (((H.append 6 a).2.append 8 b).2.fs 5) = (H.append 6 a).2.fs 5 := append_other _ 8 b 5 (by decide)
  have e5 : (5 + ((0 : Nat) : Int)) = 5 := rfl
  rw [e5] at c2 c1 hfx ⊢
  rw [f2, f1, hfx] at c2
  omega
end Go.Proofs.YtmofakcpldbbmaaDoor
