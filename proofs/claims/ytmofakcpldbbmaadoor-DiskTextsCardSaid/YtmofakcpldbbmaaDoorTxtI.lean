/- The model of package text: equality of edits, Splice. -/
import Derived.Test.YtmofakcpldbbmaaDoorTxtH
namespace Go.Proofs.YtmofakcpldbbmaaDoor
open Go.RowKit

def RetTB (w : World) (en : Ending) (w' : World) : Prop := en = .returned (.bool true) ∧ Below w.heap.size w w'

/-- What may be read of a row can be read cell by cell. -/
theorem rvCell {w : World} {v : Value} {l : List Int} {n : Nat} (h : Rv w v n (l.map (Value.int .i64))) {i : Nat} (hi : i < l.length) : ∃ b off, (∃ cap, v = .slice (some ⟨b, off, none⟩) n cap) ∧ w.cell? ⟨b, off + i, none⟩ = some (.int .i64 l[i]) := by
  obtain ⟨ao, cap, rfl, _, _⟩ := h.opened
  obtain ⟨b, off, he, hc⟩ := h.rd.cell (i := i) (u := .int .i64 l[i]) (by simp [hi])
  have he' : ao = some ⟨b, off, none⟩ := he
  subst he'
  exact ⟨b, off, ⟨cap, rfl⟩, hc⟩

end Go.Proofs.YtmofakcpldbbmaaDoor
