/- The law TextRound. -/
import Derived.Test.YtmofakcpldbbmaaDoorTxtE1
import Derived.Test.YtmofakcpldbbmaaDoorTxtW
import Derived.Test.YtmofakcpldbbmaaDoorTake
namespace Go.Proofs.YtmofakcpldbbmaaDoor
open Go.RowKit

theorem symsM_len (runes : Bool) (f : Nat) (b : List UInt8) : (symsM runes f b).length ≤ f := by
  induction f generalizing b with
  | zero => simp [symsM]
  | succ f ih =>
    cases b with
    | nil => simp [symsM]
    | cons c cs =>
      rw [symsM]
      split
      · simp
      · rw [List.length_cons]
        have := ih ((c :: cs).drop (nextM runes (c :: cs)).2.toNat)
        omega
theorem syms_false (f : Nat) (b : List UInt8) : ∀ y ∈ symsM false f b, 0 ≤ y := by
  induction f generalizing b with
  | zero => simp [symsM]
  | succ f ih =>
    cases b with
    | nil => simp [symsM]
    | cons c cs =>
      rw [symsM]
      have e : nextM false (c :: cs) = ((c.toNat : Int), 1) := rfl
      rw [e, if_neg (by simp)]
      intro y hy
      rcases List.mem_cons.1 hy with rfl | hy
      · simp
      · exact ih _ y hy
/-- What bytes decode to. -/
theorem dec_cases (runes : Bool) (bs : List UInt8) (h : bs.length ≤ 60000) :
    (∃ p, decE (decM runes bs) = 0 ∧ decL (decM runes bs) = p ∧ valM p runes = 0 ∧ encR p runes = bs ∧ p.all (symB runes) = true ∧ p.length ≤ bs.length) ∨ (decE (decM runes bs) = 9 ∧ decL (decM runes bs) = [] ∧ runes = true) := by
  have hl : (decM runes bs).length ≤ bs.length := symsM_len runes _ _
  by_cases hp : ∀ y ∈ decM runes bs, 0 ≤ y
  · left
    obtain ⟨h1, h2⟩ := enc_syms runes bs.length bs (Nat.le_refl _) hp
    have he : decE (decM runes bs) = 0 := by unfold decE; rw [if_pos hp, if_pos (by omega)]
    have hv : valM (decM runes bs) runes = 0 := by
      unfold valM
      rw [if_neg (by omega)]
      exact if_pos h2
    exact ⟨_, he, by unfold decL; rw [if_pos he], hv, by unfold encR; rw [if_pos hv]; exact h1, h2, hl⟩
  · right
    have he : decE (decM runes bs) = 9 := by unfold decE; rw [if_neg hp]
    refine ⟨he, by unfold decL; rw [he, if_neg (by decide)], ?_⟩
    cases runes
    · exact absurd (syms_false bs.length bs) hp
    · rfl
theorem enc_app (a b : List Int) (runes : Bool) : encM (a ++ b) runes = encM a runes ++ encM b runes := by simp [encM, List.flatMap_append]
theorem enc_pre (runes : Bool) (p a : List Int) (hp : p.all (symB runes) = true) (ha : a.all (symB runes) = true) (rest : List UInt8) (h : encM a runes = encM p runes ++ rest) : p.length ≤ a.length ∧ a.take p.length = p := by
  induction p generalizing a with
  | nil => simp
  | cons s p ih =>
    rw [List.all_cons, Bool.and_eq_true] at hp
    obtain ⟨n, rfl⟩ := Int.eq_ofNat_of_zero_le (symB_nat hp.1).1
    have e1 : encM ((n : Int) :: p) runes = oneM runes n ++ encM p runes := rfl
    rw [e1, List.append_assoc] at h
    cases a with
    | nil =>
      have h1 := oneM_pos runes n
      have h2 := congrArg List.length h
      rw [List.length_append] at h2
      rw [List.length_append] at h2
      have h3 : (encM [] runes).length = 0 := rfl
      omega
    | cons t a =>
      rw [List.all_cons, Bool.and_eq_true] at ha
      obtain ⟨m, rfl⟩ := Int.eq_ofNat_of_zero_le (symB_nat ha.1).1
      have e2 : encM ((m : Int) :: a) runes = oneM runes m ++ encM a runes := rfl
      rw [e2] at h
      have n1 := next_one runes m ha.1 (encM a runes)
      have n2 := next_one runes n hp.1 (encM p runes ++ rest)
      rw [h, n2] at n1
      have hnm : n = m := by
        have := congrArg Prod.fst n1
        simp only at this
        omega
      subst hnm
      obtain ⟨h3, h4⟩ := ih a hp.2 ha.2 (List.append_cancel_left h)
      exact ⟨by simpa using h3, by rw [List.length_cons, List.take_succ_cons, h4]⟩
theorem text_all (l : List Int) (most : Nat) (runes : Bool) : (textM l most runes).all (symB runes) = true := List.all_eq_true.2 fun x hx => by
  obtain ⟨y, _, rfl⟩ := List.mem_map.1 hx
  exact symOf_ok runes y
theorem encode_ok (v : Value) (l : List Int) (runes : Bool) (w : World) (hv : Rv w v l.length (l.map (Value.int .i64))) (hl : l.length ≤ 60000) (ha : l.all (symB runes) = true) (hF : FM w) :
    Calls Tryd.prog 6 #[v, .bool runes] w (EnPost w 0 (encM l runes)) := by
  have h := encode_any v l runes w hv (by omega) hF
  have hv0 : valM l runes = 0 := by unfold valM; rw [if_neg (by omega), if_pos ha]
  have he : encR l runes = encM l runes := by unfold encR; rw [if_pos hv0]
  rwa [hv0, he] at h
theorem decode_enc (v : Value) (l : List Int) (runes : Bool) (w : World) (hv : Rv w v (encM l runes).length ((encM l runes).map vB)) (hl : l.length ≤ 60000) (ha : l.all (symB runes) = true) (hF : FM w) :
    Calls Tryd.prog 13 #[v, .bool runes] w (DePost w 0 l) := by
  have hle := encM_len l runes
  have h := decode_any v (encM l runes) runes w hv (by omega) hF
  rw [dec_enc runes l ha] at h
  have hp : ∀ y ∈ l, 0 ≤ y := fun y hy => (symB_nat (List.all_eq_true.1 ha y hy)).1
  have he : decE l = 0 := by unfold decE; rw [if_pos hp, if_pos (by omega)]
  have hd : decL l = l := by unfold decL; rw [if_pos he]
  rwa [he, hd] at h

end Go.Proofs.YtmofakcpldbbmaaDoor
