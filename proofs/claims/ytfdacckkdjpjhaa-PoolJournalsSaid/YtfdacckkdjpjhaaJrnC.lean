/- Lists of byte slices: SameLists. -/
import Derived.Test.YtfdacckkdjpjhaaJrnA
import Derived.Deep.QuietTactic
import Derived.BigQuiet
import Derived.Deep.RegionHeld3
namespace Go.Proofs.Ytfdacckkdjpjhaa
open Go.RowKit

/-- A list of byte slices: its cells, and what each reads as. -/
def LsB (w : World) (v : Value) (L : List (List UInt8)) : Prop :=
  ∃ us : List Value, Rv w v L.length us ∧ us.length = L.length ∧ ∀ i (h : i < L.length) u, us[i]? = some u → Rv w u L[i].length (L[i].map vB)
theorem LsB.below {w w' : World} {v : Value} {L : List (List UInt8)} (h : LsB w v L) (hb : Below w.heap.size w w') : LsB w' v L := by
  obtain ⟨us, h1, h2, h3⟩ := h
  exact ⟨us, h1.below hb, h2, fun i hi u hu => (h3 i hi u hu).below hb⟩
theorem LsB.drewN {w : World} {v : Value} {L : List (List UInt8)} (h : LsB w v L) (n : Nat) : LsB (w.drewN n) v L := h
/-- One of the list. -/
theorem LsB.at {w : World} {v : Value} {L : List (List UInt8)} (h : LsB w v L) (i : Nat) (hi : i < L.length) :
    ∃ b off cap u, v = .slice (some ⟨b, off, none⟩) L.length cap ∧ w.cell? ⟨b, off + i, none⟩ = some u ∧ Rv w u L[i].length (L[i].map vB) := by
  obtain ⟨us, ⟨ao, cap, rfl, _, _, _, hrd⟩, h2, h3⟩ := h
  have hu : us[i]? = some us[i] := List.getElem?_eq_getElem (by omega)
  obtain ⟨b, off, rfl, hc⟩ := hrd.cell hu
  exact ⟨b, off, cap, us[i], rfl, hc, h3 i hi _ hu⟩

end Go.Proofs.Ytfdacckkdjpjhaa
