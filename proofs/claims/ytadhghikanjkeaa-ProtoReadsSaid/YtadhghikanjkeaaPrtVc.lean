/- Package proto, plain: one piece more; what is held is no longer than what was fed. -/
import Derived.Test.YtadhghikanjkeaaPrtVb
namespace Go.Proofs.Ytadhghikanjkeaa
open Go.RowKit

theorem fedL_snoc (ps : List (List UInt8)) (x : List UInt8) : ∀ (h : List UInt8) (e : Int), fedL h e (ps ++ [x]) =
    ((fedL h e ps).1 ++ (if (fedL h e ps).2.2 ≠ 0 then [] else (feedP ((fedL h e ps).2.1 ++ x)).1),
      if (fedL h e ps).2.2 ≠ 0 then (fedL h e ps).2.1 else (feedP ((fedL h e ps).2.1 ++ x)).2.1, if (fedL h e ps).2.2 ≠ 0 then (fedL h e ps).2.2 else (feedP ((fedL h e ps).2.1 ++ x)).2.2) := by
  induction ps with
  | nil =>
    intro h e
    rw [List.nil_append, fedL, fedL]
    by_cases he : e = 0
    · subst he
      simp [fedL]
    · rw [if_pos he]
      simp only [fedL, ne_eq, he, not_false_eq_true, if_true, List.append_nil]
  | cons y ps ih =>
    intro h e
    rw [List.cons_append, fedL, fedL]
    by_cases he : e = 0
    · subst he
      simp only [ne_eq, not_true_eq_false, if_false]
      rw [ih]
      simp only [List.append_assoc, ne_eq]
    · rw [if_pos he, if_pos he, ih]
theorem feedP_left (n : Nat) : ∀ b : List UInt8, b.length ≤ n → (feedP b).2.1.length ≤ b.length := by
  induction n with
  | zero =>
    intro b hb
    obtain rfl : b = [] := List.eq_nil_of_length_eq_zero (by omega)
    rw [feedP_nil]
    simp
  | succ n ih =>
    intro b hb
    by_cases h3 : (decP b).2.2 = 3
    · rw [feedP_more h3]; exact Nat.le_refl _
    · by_cases h0 : (decP b).2.2 = 0
      · have hs := decP_size b h0
        rw [feedP_one h0]
        have := ih (b.drop (decP b).2.1) (by rw [List.length_drop]; omega)
        rw [List.length_drop] at this
        simp only
        omega
      · rw [feedP_bad h3 h0]; simp
/-- All the pieces are fed. -/
theorem fed_whole (ps : List (List UInt8)) (X : List UInt8) (hX : ps.flatten = X) (hn : ps ≠ []) : (fedL [] 0 ps).1 = (feedP X).1 ∧ (fedL [] 0 ps).2.2 = (feedP X).2.2 := by
  have := fedL_all ps [] feedP_nil hn
  rw [List.nil_append, hX] at this
  exact this
end Go.Proofs.Ytadhghikanjkeaa
