/- Package proto, plain: what a reader returns of what it holds; pieces. -/
import Derived.Test.YtadhghikanjkeaaPrtB
namespace Go.Proofs.Ytadhghikanjkeaa
open Go.RowKit

/-- The messages that are complete, what is left, the error of what follows them. -/
def feedL : Nat → List UInt8 → List Msg × List UInt8 × Int
  | 0, b => ([], b, 0)
  | f + 1, b => if (decP b).2.2 = 3 then ([], b, 0) else if (decP b).2.2 ≠ 0 then ([], [], (decP b).2.2) else
      ((decP b).1 :: (feedL f (b.drop (decP b).2.1)).1, (feedL f (b.drop (decP b).2.1)).2)
def feedP (b : List UInt8) : List Msg × List UInt8 × Int := feedL (b.length + 1) b

theorem feedL_fuel : ∀ (f g : Nat) (b : List UInt8), b.length < f → b.length < g → feedL f b = feedL g b
  | 0, _, _, hf, _ => absurd hf (Nat.not_lt_zero _)
  | _ + 1, 0, _, _, hg => absurd hg (Nat.not_lt_zero _)
  | f + 1, g + 1, b, hf, hg => by
    rw [feedL, feedL]
    by_cases h3 : (decP b).2.2 = 3
    · rw [if_pos h3, if_pos h3]
    · rw [if_neg h3, if_neg h3]
      by_cases h0 : (decP b).2.2 = 0
      · rw [if_neg (by simpa using h0), if_neg (by simpa using h0)]
        have hs := decP_size b h0
        have hl : (b.drop (decP b).2.1).length < b.length := by rw [List.length_drop]; omega
        rw [feedL_fuel f g (b.drop (decP b).2.1) (by omega) (by omega)]
      · rw [if_pos h0, if_pos h0]
theorem feedP_more {b : List UInt8} (h : (decP b).2.2 = 3) : feedP b = ([], b, 0) := by rw [feedP, feedL, if_pos h]
theorem feedP_bad {b : List UInt8} (h3 : (decP b).2.2 ≠ 3) (h0 : (decP b).2.2 ≠ 0) : feedP b = ([], [], (decP b).2.2) := by rw [feedP, feedL, if_neg h3, if_pos h0]
theorem feedP_one {b : List UInt8} (h0 : (decP b).2.2 = 0) : feedP b = ((decP b).1 :: (feedP (b.drop (decP b).2.1)).1, (feedP (b.drop (decP b).2.1)).2) := by
  have hs := decP_size b h0
  have hl : (b.drop (decP b).2.1).length < b.length := by rw [List.length_drop]; omega
  rw [feedP, feedL, if_neg (by rw [h0]; decide), if_neg (by simpa using h0), feedP, feedL_fuel b.length ((b.drop (decP b).2.1).length + 1) _ hl (by omega)]
/-- Bytes that come later. -/
theorem feedP_split (n : Nat) : ∀ (b t : List UInt8), b.length ≤ n → feedP (b ++ t) = if (feedP b).2.2 ≠ 0 then feedP b else ((feedP b).1 ++ (feedP ((feedP b).2.1 ++ t)).1, (feedP ((feedP b).2.1 ++ t)).2) := by
  induction n with
  | zero =>
    intro b t hb
    obtain rfl : b = [] := List.eq_nil_of_length_eq_zero (by omega)
    have h : feedP [] = ([], [], 0) := feedP_more (by decide)
    rw [h]
    simp
  | succ n ih =>
    intro b t hb
    by_cases h3 : (decP b).2.2 = 3
    · rw [feedP_more h3]
      simp
    · have hm := decP_more b t h3
      by_cases h0 : (decP b).2.2 = 0
      · have hs := decP_size b h0
        have hd : (b ++ t).drop (decP b).2.1 = b.drop (decP b).2.1 ++ t := List.drop_append_of_le_length hs.2
        rw [feedP_one (b := b ++ t) (by rw [hm]; exact h0), hm, hd, feedP_one h0, ih (b.drop (decP b).2.1) t (by rw [List.length_drop]; omega)]
        by_cases he : (feedP (b.drop (decP b).2.1)).2.2 ≠ 0
        · simp only [if_pos he]
        · simp only [if_neg he, List.cons_append]
      · rw [feedP_bad (b := b ++ t) (by rw [hm]; exact h3) (by rw [hm]; exact h0), hm, feedP_bad h3 h0]
        simp only [ne_eq, h0, not_false_eq_true, if_true]
/-- A reader's state under pieces: what was held, the error, and the pieces. -/
def fedL : List UInt8 → Int → List (List UInt8) → List Msg × List UInt8 × Int
  | h, e, [] => ([], h, e)
  | h, e, x :: xs => if e ≠ 0 then (fedL h e xs) else
      ((feedP (h ++ x)).1 ++ (fedL (feedP (h ++ x)).2.1 (feedP (h ++ x)).2.2 xs).1, (fedL (feedP (h ++ x)).2.1 (feedP (h ++ x)).2.2 xs).2)
theorem fedL_bad (h : List UInt8) (e : Int) (he : e ≠ 0) (xs : List (List UInt8)) : fedL h e xs = ([], h, e) := by
  induction xs with
  | nil => rfl
  | cons x xs ih => rw [fedL, if_pos he, ih]
theorem feedP_stop (b : List UInt8) (h : (feedP b).2.2 = 0) : feedP (feedP b).2.1 = ([], (feedP b).2.1, 0) := by
  have := feedP_split b.length b [] (Nat.le_refl _)
  rw [List.append_nil, if_neg (by simpa using h), List.append_nil] at this
  have h1 := congrArg Prod.fst this
  have h2 := congrArg Prod.snd this
  simp only at h1 h2
  have h3 : (feedP (feedP b).2.1).1 = [] := by
    have h4 := congrArg List.length h1
    rw [List.length_append] at h4
    exact List.eq_nil_of_length_eq_zero (by omega)
  exact Prod.ext h3 (by rw [← h2]; exact Prod.ext rfl h)
/-- In pieces as at once. -/
theorem fedL_all (xs : List (List UInt8)) : ∀ (h : List UInt8), feedP h = ([], h, 0) → xs ≠ [] → (fedL h 0 xs).1 = (feedP (h ++ xs.flatten)).1 ∧ (fedL h 0 xs).2.2 = (feedP (h ++ xs.flatten)).2.2 := by
  induction xs with
  | nil => intro h _ hn; exact absurd rfl hn
  | cons x xs ih =>
    intro h hh _
    rw [fedL, if_neg (by simp), List.flatten_cons, ← List.append_assoc]
    have hsp := feedP_split (h ++ x).length (h ++ x) xs.flatten (Nat.le_refl _)
    by_cases he : (feedP (h ++ x)).2.2 = 0
    · rw [if_neg (by simpa using he)] at hsp
      have hst := feedP_stop _ he
      rw [he]
      by_cases hx : xs = []
      · subst hx
        rw [List.flatten_nil, List.append_nil] at *
        rw [fedL]
        refine ⟨by simp, ?_⟩
        exact he.symm
      · obtain ⟨i1, i2⟩ := ih _ hst hx
        rw [hsp]
        exact ⟨by rw [i1], i2⟩
    · rw [if_pos he] at hsp
      rw [hsp, fedL_bad _ _ he]
      exact ⟨by simp, rfl⟩
end Go.Proofs.Ytadhghikanjkeaa
