/- UTF-8 as plain lists: the first symbol of an encoding, and the encoding of the first symbol. -/
import Derived.Test.YtmofakcpldbbmaaDoorTxtR
import Derived.Test.YtmofakcpldbbmaaDoorTxtVa
namespace Go.Proofs.YtmofakcpldbbmaaDoor
open Go.RowKit

theorem ofN (k : Nat) (h : k < 256) : (UInt8.ofNat k).toNat = k := by rw [UInt8.toNat_ofNat']; exact Nat.mod_eq_of_lt (by omega)
theorem ofN_eq {c : UInt8} {k : Nat} (h : c.toNat = k) : UInt8.ofNat k = c := by
  have := c.toNat_lt
  exact UInt8.toNat_inj.1 (by rw [ofN k (by omega), h])

theorem oneM_pos (runes : Bool) (s : Nat) : 1 ≤ (oneM runes s).length := by
  unfold oneM
  split
  · simp
  split
  · simp
  split <;> simp

theorem firstM_cons (c : UInt8) (cs : List UInt8) : firstM (c :: cs) = if c.toNat ≤ 127 then ((c.toNat : Int), 1) else if 192 ≤ c.toNat ∧ c.toNat ≤ 223 then formM 128 2047 192 1 c.toNat (c :: cs) else if 224 ≤ c.toNat ∧ c.toNat ≤ 239 then formM 2048 65535 224 2 c.toNat (c :: cs) else if 240 ≤ c.toNat ∧ c.toNat ≤ 244 then formM 65536 1114111 240 3 c.toNat (c :: cs) else (0, 0) := rfl
def okS (least greatest s : Nat) : Prop := ¬ (s < least ∨ greatest < s ∨ (55296 ≤ s ∧ s ≤ 57343))
theorem formM_yes (least greatest lead more x s : Nat) (b : List UInt8) (hl : more < b.length) (hc : ((b.drop 1).take more).all contB = true) (hs : foldC (x - lead) ((b.drop 1).take more) = s) (ho : okS least greatest s) :
    formM least greatest lead more x b = ((s : Int), ((1 + more : Nat) : Int)) := by
  unfold formM
  rw [if_neg (by omega)]
  simp only
  rw [if_pos hc, hs, if_neg ho]
theorem formM_inv (least greatest lead more x : Nat) (b : List UInt8) (h : (formM least greatest lead more x b).2 ≠ 0) : more < b.length ∧ ((b.drop 1).take more).all contB = true ∧ okS least greatest (foldC (x - lead) ((b.drop 1).take more)) := by
  unfold formM at h
  by_cases h1 : b.length ≤ more
  · rw [if_pos h1] at h; exact absurd rfl h
  · rw [if_neg h1] at h
    simp only at h
    by_cases h2 : ((b.drop 1).take more).all contB = true
    · rw [if_pos h2] at h
      refine ⟨by omega, h2, ?_⟩
      intro h3
      rw [if_pos h3] at h
      exact h rfl
    · rw [if_neg h2] at h; exact absurd rfl h
theorem contB_iff (c : UInt8) : contB c = true ↔ 128 ≤ c.toNat ∧ c.toNat ≤ 191 := by unfold contB; exact decide_eq_true_iff
theorem pairE {a b c d : Int} (h : a = c) (h' : b = d) : (a, b) = (c, d) := by rw [h, h']

theorem len1 {l : List UInt8} (h : 1 ≤ l.length) : ∃ d ds, l = d :: ds := by cases l with | nil => simp at h | cons d ds => exact ⟨d, ds, rfl⟩
/-- The first symbol of an encoding that is followed by anything. -/
theorem first_one (n : Nat) (h : symB true (n : Int) = true) (rest : List UInt8) : firstM (oneM true n ++ rest) = ((n : Int), ((oneM true n).length : Int)) := by
  have hs : (n < 55296 ∨ 57343 < n ∧ n ≤ 1114111) := by unfold symB at h; simp at h; omega
  by_cases h0 : n < 128
  · rw [one0 n h0, List.cons_append, firstM_cons, ofN n (by omega), if_pos (by omega)]
    rfl
  by_cases h1 : n < 2048
  · rw [one1 n h0 h1, List.cons_append, firstM_cons, ofN (192 + n / 64) (by omega), if_neg (by omega), if_pos (by omega)]
    exact formM_yes _ _ _ _ _ n _ (by simp) (by simp [contB_iff]; omega) (by simp [foldC]; omega) (by unfold okS; omega)
  by_cases h2 : n < 65536
  · rw [one2 n h1 h2, List.cons_append, firstM_cons, ofN (224 + n / 4096) (by omega), if_neg (by omega), if_neg (by omega), if_pos (by omega)]
    exact formM_yes _ _ _ _ _ n _ (by simp) (by simp [contB_iff]; omega) (by simp [foldC]; omega) (by unfold okS; omega)
  · rw [one3 n h2, List.cons_append, firstM_cons, ofN (240 + n / 262144) (by omega), if_neg (by omega), if_neg (by omega), if_neg (by omega), if_pos (by omega)]
    exact formM_yes _ _ _ _ _ n _ (by simp) (by simp [contB_iff]; omega) (by simp [foldC]; omega) (by unfold okS; omega)

/-- What first reads is an encoding. -/
theorem first_inv (b : List UInt8) (hb : 0 < b.length) (h : (firstM b).2 ≠ 0) : ∃ n : Nat, symB true (n : Int) = true ∧ firstM b = ((n : Int), ((oneM true n).length : Int)) ∧ b = oneM true n ++ b.drop (oneM true n).length := by
  have sy : ∀ n : Nat, (n < 55296 ∨ 57343 < n ∧ n ≤ 1114111) → symB true (n : Int) = true := fun n h => by unfold symB; simp; omega
  have key : ∀ n : Nat, symB true (n : Int) = true → (∃ rest, b = oneM true n ++ rest) → ∃ n : Nat, symB true (n : Int) = true ∧ firstM b = ((n : Int), ((oneM true n).length : Int)) ∧ b = oneM true n ++ b.drop (oneM true n).length := by
    rintro n hn ⟨rest, hr⟩
    exact ⟨n, hn, by rw [hr]; exact first_one n hn rest, by rw [hr, List.drop_left]⟩
  obtain ⟨c, cs, rfl⟩ : ∃ c cs, b = c :: cs := by cases b with | nil => simp at hb | cons c cs => exact ⟨c, cs, rfl⟩
  have hc := c.toNat_lt
  rw [firstM_cons] at h
  by_cases h0 : c.toNat ≤ 127
  · exact key c.toNat (sy _ (by omega)) ⟨cs, by rw [one0 _ (by omega), ofN_eq (c := c) rfl]; rfl⟩
  rw [if_neg h0] at h
  by_cases h1 : 192 ≤ c.toNat ∧ c.toNat ≤ 223
  · rw [if_pos h1] at h
    obtain ⟨hl, hd, ho⟩ := formM_inv _ _ _ _ _ _ h
    rw [List.length_cons] at hl
    · obtain ⟨d, ds, rfl⟩ := len1 (l := cs) (by omega)
      simp only [List.drop_succ_cons, List.drop_zero, List.take_succ_cons, List.take_zero, List.all_cons, List.all_nil, foldC, Bool.and_true, contB_iff] at hd ho
      unfold okS at ho
      exact key ((c.toNat - 192) * 64 + d.toNat % 64) (sy _ (by omega)) ⟨ds, by rw [one1 _ (by omega) (by omega), ofN_eq (c := c) (by omega), ofN_eq (c := d) (by omega)]; rfl⟩
  rw [if_neg h1] at h
  by_cases h2 : 224 ≤ c.toNat ∧ c.toNat ≤ 239
  · rw [if_pos h2] at h
    obtain ⟨hl, hd, ho⟩ := formM_inv _ _ _ _ _ _ h
    rw [List.length_cons] at hl
    · obtain ⟨d, ds, rfl⟩ := len1 (l := cs) (by omega)
      rw [List.length_cons] at hl
      obtain ⟨f, ds, rfl⟩ := len1 (l := ds) (by omega)
      simp only [List.drop_succ_cons, List.drop_zero, List.take_succ_cons, List.take_zero, List.all_cons, List.all_nil, foldC, Bool.and_true, Bool.and_eq_true, contB_iff] at hd ho
      unfold okS at ho
      exact key (((c.toNat - 224) * 64 + d.toNat % 64) * 64 + f.toNat % 64) (sy _ (by omega)) ⟨ds, by rw [one2 _ (by omega) (by omega), ofN_eq (c := c) (by omega), ofN_eq (c := d) (by omega), ofN_eq (c := f) (by omega)]; rfl⟩
  rw [if_neg h2] at h
  by_cases h3 : 240 ≤ c.toNat ∧ c.toNat ≤ 244
  · rw [if_pos h3] at h
    obtain ⟨hl, hd, ho⟩ := formM_inv _ _ _ _ _ _ h
    rw [List.length_cons] at hl
    · obtain ⟨d, ds, rfl⟩ := len1 (l := cs) (by omega)
      rw [List.length_cons] at hl
      obtain ⟨f, ds, rfl⟩ := len1 (l := ds) (by omega)
      rw [List.length_cons] at hl
      obtain ⟨g, ds, rfl⟩ := len1 (l := ds) (by omega)
      simp only [List.drop_succ_cons, List.drop_zero, List.take_succ_cons, List.take_zero, List.all_cons, List.all_nil, foldC, Bool.and_true, Bool.and_eq_true, contB_iff] at hd ho
      unfold okS at ho
      exact key ((((c.toNat - 240) * 64 + d.toNat % 64) * 64 + f.toNat % 64) * 64 + g.toNat % 64) (sy _ (by omega)) ⟨ds, by rw [one3 _ (by omega), ofN_eq (c := c) (by omega), ofN_eq (c := d) (by omega), ofN_eq (c := f) (by omega), ofN_eq (c := g) (by omega)]; rfl⟩
  · rw [if_neg h3] at h
    exact absurd rfl h

/-- The next symbol of an encoding that is followed by anything. -/
theorem next_one (runes : Bool) (n : Nat) (h : symB runes (n : Int) = true) (rest : List UInt8) : nextM runes (oneM runes n ++ rest) = ((n : Int), ((oneM runes n).length : Int)) := by
  cases runes
  · have : n ≤ 255 := by unfold symB at h; simp at h; omega
    unfold nextM oneM
    simp [ofN n (by omega)]
  · exact first_one n h rest
theorem next_inv (runes : Bool) (b : List UInt8) (hb : 0 < b.length) (h : (nextM runes b).2 ≠ 0) : ∃ n : Nat, symB runes (n : Int) = true ∧ nextM runes b = ((n : Int), ((oneM runes n).length : Int)) ∧ b = oneM runes n ++ b.drop (oneM runes n).length := by
  cases runes
  · obtain ⟨c, cs, rfl⟩ : ∃ c cs, b = c :: cs := by cases b with | nil => simp at hb | cons c cs => exact ⟨c, cs, rfl⟩
    have hc := c.toNat_lt
    have e : oneM false c.toNat = [c] := by show [UInt8.ofNat c.toNat] = _; rw [ofN_eq rfl]
    exact ⟨c.toNat, by unfold symB; simp; omega, by rw [e]; rfl, by rw [e]; rfl⟩
  · exact first_inv b hb h

/-- Decoding leads back. -/
theorem syms_enc (runes : Bool) (l : List Int) (h : l.all (symB runes) = true) (f : Nat) (hf : l.length ≤ f) : symsM runes f (encM l runes) = l := by
  induction l generalizing f with
  | nil => cases f <;> rfl
  | cons x l ih =>
    rw [List.length_cons] at hf
    obtain ⟨f, rfl⟩ : ∃ g, f = g + 1 := ⟨f - 1, by omega⟩
    rw [List.all_cons, Bool.and_eq_true] at h
    obtain ⟨n, rfl⟩ := Int.eq_ofNat_of_zero_le (symB_nat h.1).1
    have hn := next_one runes n h.1 (encM l runes)
    have he : encM ((n : Int) :: l) runes = oneM runes n ++ encM l runes := rfl
    have hp := oneM_pos runes n
    rw [he]
    obtain ⟨c, cs, hcs⟩ : ∃ c cs, oneM runes n ++ encM l runes = c :: cs := by
      cases h' : oneM runes n with
      | nil => rw [h'] at hp; simp at hp
      | cons c cs => exact ⟨c, _, rfl⟩
    have hd : (c :: cs).drop (oneM runes n).length = encM l runes := by rw [← hcs, List.drop_left]
    rw [hcs] at hn ⊢
    rw [symsM, hn]
    simp only [Int.toNat_natCast]
    rw [if_neg (by omega), hd, ih h.2 f (by omega)]
theorem enc_len_ge (runes : Bool) (l : List Int) : l.length ≤ (encM l runes).length := by
  induction l with
  | nil => simp
  | cons x l ih =>
    have := oneM_pos runes x.toNat
    show _ ≤ (oneM runes x.toNat ++ encM l runes).length
    rw [List.length_append, List.length_cons]
    omega
theorem dec_enc (runes : Bool) (l : List Int) (h : l.all (symB runes) = true) : decM runes (encM l runes) = l := syms_enc runes l h _ (enc_len_ge runes l)

/-- Bytes that are decoded are the encoding of the result. -/
theorem enc_syms (runes : Bool) (f : Nat) (b : List UInt8) (hf : b.length ≤ f) (h : ∀ y ∈ symsM runes f b, 0 ≤ y) : encM (symsM runes f b) runes = b ∧ (symsM runes f b).all (symB runes) = true := by
  induction f generalizing b with
  | zero =>
    have : b = [] := List.eq_nil_of_length_eq_zero (by omega)
    subst this
    exact ⟨rfl, rfl⟩
  | succ f ih =>
    cases b with
    | nil => exact ⟨rfl, rfl⟩
    | cons c cs =>
      rw [symsM] at h ⊢
      by_cases h2 : (nextM runes (c :: cs)).2 = 0
      · rw [if_pos h2] at h
        have := h (-1) (by simp)
        omega
      · rw [if_neg h2] at h ⊢
        obtain ⟨n, hs, hn, hb⟩ := next_inv runes (c :: cs) (by simp) h2
        have hp := oneM_pos runes n
        rw [hn] at h ⊢
        simp only [Int.toNat_natCast] at h ⊢
        have hl := congrArg List.length hb
        rw [List.length_append] at hl
        obtain ⟨h3, h4⟩ := ih ((c :: cs).drop (oneM runes n).length) (by omega) (fun y hy => h y (List.mem_cons_of_mem _ hy))
        refine ⟨?_, by rw [List.all_cons, hs, h4]; rfl⟩
        show oneM runes n ++ encM _ runes = _
        rw [h3]
        exact hb.symm
end Go.Proofs.YtmofakcpldbbmaaDoor
