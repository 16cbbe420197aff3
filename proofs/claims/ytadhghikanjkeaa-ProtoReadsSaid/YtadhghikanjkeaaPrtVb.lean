/- Package proto, plain: a row of frames is read whole; one byte altered is found. -/
import Derived.Test.YtadhghikanjkeaaPrtV
import Derived.Test.YtadhghikanjkeaaPrtG
namespace Go.Proofs.Ytadhghikanjkeaa
open Go.RowKit

/-- The frames of messages, one behind the other. -/
def framesP (ms : List Msg) : List UInt8 := ms.flatMap fun m => framedP (coreP m)
theorem feedP_nil : feedP [] = ([], [], 0) := feedP_more (by decide)
theorem decP_of {m : Msg} (h : validM m = true) (t : List UInt8) : decP (framedP (coreP m) ++ t) = (m, (framedP (coreP m)).length, 0) := by
  have := core_le h
  rw [decP_framed _ _ (by omega), decC_core m h, framedP_len]
theorem feedP_frame {m : Msg} (h : validM m = true) (t : List UInt8) : feedP (framedP (coreP m) ++ t) = (m :: (feedP t).1, (feedP t).2) := by
  have hd := decP_of h t
  rw [feedP_one (by rw [hd]), hd]
  simp only [List.drop_left]
theorem feed_frames : ∀ (ms : List Msg) (t : List UInt8), (∀ m ∈ ms, validM m = true) → feedP (framesP ms ++ t) = (ms ++ (feedP t).1, (feedP t).2)
  | [], t, _ => by simp [framesP]
  | m :: ms, t, h => by
    have e : framesP (m :: ms) ++ t = framedP (coreP m) ++ (framesP ms ++ t) := by simp [framesP, List.append_assoc]
    rw [e, feedP_frame (h m (by simp)), feed_frames ms t (fun x hx => h x (by simp [hx]))]
    rfl
theorem feed_bent : ∀ (ms : List Msg) (k : Nat) (y : UInt8), (∀ m ∈ ms, validM m = true) → k < (framesP ms).length → (framesP ms)[k]? ≠ some y → (feedP ((framesP ms).set k y)).2.2 ≠ 0
  | [], k, y, _, hk, _ => by simp [framesP] at hk
  | m :: ms, k, y, h, hk, hy => by
    have e : framesP (m :: ms) = framedP (coreP m) ++ framesP ms := by simp [framesP]
    have hv := h m (by simp)
    have hc := core_le hv
    rw [e] at hk hy ⊢
    by_cases hlt : k < (framedP (coreP m)).length
    · rw [List.set_append_left _ _ hlt]
      rw [List.getElem?_append_left hlt] at hy
      have hb := decP_bent (coreP m) (framesP ms) (by omega) k y hlt hy
      rw [feedP_bad (by rw [hb]; decide) (by rw [hb]; decide), hb]
      decide
    · rw [List.set_append_right _ _ (by omega), feedP_frame hv]
      rw [List.getElem?_append_right (by omega)] at hy
      rw [List.length_append] at hk
      exact feed_bent ms (k - (framedP (coreP m)).length) y (fun x hx => h x (by simp [hx])) (by omega) hy
end Go.Proofs.Ytadhghikanjkeaa
