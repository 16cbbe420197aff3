/- The model of package text: Valid, Encode. -/
import Derived.Test.YtmofakcpldbbmaaDoorTxtM
namespace Go.Proofs.YtmofakcpldbbmaaDoor
open Go.RowKit

/-- The error of a text. -/
def valM (l : List Int) (runes : Bool) : Int := if 65536 < l.length then 4 else if l.all (symB runes) then 0 else 5
/-- The encoding of a text. -/
def encM (l : List Int) (runes : Bool) : List UInt8 := l.flatMap fun x => oneM runes x.toNat
theorem encM_snoc (l : List Int) (runes : Bool) (i : Nat) (hi : i < l.length) : encM (l.take (i + 1)) runes = encM (l.take i) runes ++ oneM runes l[i].toNat := by
  simp only [encM, List.take_succ_eq_append_getElem hi, List.flatMap_append, List.flatMap_cons, List.flatMap_nil, List.append_nil]
theorem oneM_len (runes : Bool) (s : Nat) : (oneM runes s).length ≤ 4 := by
  unfold oneM
  split
  · simp
  split
  · simp
  split <;> simp
theorem encM_len (l : List Int) (runes : Bool) : (encM l runes).length ≤ 4 * l.length := by
  induction l with
  | nil => simp [encM]
  | cons x l ih =>
    have := oneM_len runes x.toNat
    simp only [encM, List.flatMap_cons, List.length_append, List.length_cons] at ih ⊢
    omega
theorem symB_nat {runes : Bool} {x : Int} (h : symB runes x = true) : 0 ≤ x ∧ x ≤ 1114111 ∧ (runes = false → x ≤ 255) := by
  unfold symB at h
  cases runes
  · simp at h; exact ⟨h.1, by omega, fun _ => h.2⟩
  · simp at h; exact ⟨by omega, by omega, fun e => by cases e⟩

/-- Bytes and an error. -/
def EnPost (w : World) (r : Int) (us : List UInt8) (en : Ending) (w' : World) : Prop := ∃ v', en = .returned (.tuple #[v', .int .i64 r]) ∧ Made w w' 5 v' (us.map vB)
def encR (l : List Int) (runes : Bool) : List UInt8 := if valM l runes = 0 then encM l runes else []

end Go.Proofs.YtmofakcpldbbmaaDoor
