/- The law TextEncodes. -/
import Derived.Test.YtmofakcpldbbmaaDoorTxtS
import Derived.Test.YtmofakcpldbbmaaDoorTxtV
import Derived.Deep.QuietTactic
namespace Go.Proofs.YtmofakcpldbbmaaDoor
open Go.RowKit

/-- A block of slices: what each reads as. -/
def Tab {α : Type} (f : α → Value) (w : World) (b : Nat) (L : List (Value × List α)) : Prop := ∀ i (h : i < L.length), w.cell? ⟨b, i, none⟩ = some L[i].1 ∧ Rv w L[i].1 L[i].2.length (L[i].2.map f)
theorem Tab.below {α : Type} {f : α → Value} {w w' : World} {b : Nat} {L : List (Value × List α)} (h : Tab f w b L) (hb : Below w.heap.size w w') : Tab f w' b L := fun i hi =>
  ⟨(hb.cell (p := ⟨b, i, none⟩) (World.block_lt_of_cell? _ _ (h i hi).1)).trans (h i hi).1, (h i hi).2.below hb⟩
theorem Tab.new {α : Type} {f : α → Value} {w : World} (L : List (Value × List α)) (e : TypeId) (h : ∀ p ∈ L, Rv w p.1 p.2.length (p.2.map f)) : Tab f (w.alloc (.cells (L.map (·.1)).toArray e)) w.heap.size L := fun i hi => by
  refine ⟨?_, (h _ (List.getElem_mem hi)).below ((Below.refl _ w).alloc (Nat.le_refl _) _)⟩
  rw [World.cell?_alloc_new]
  simp [hi]
theorem textM_le (l : List Int) (most : Nat) (runes : Bool) : (textM l most runes).length ≤ most := by
  rw [textM, List.length_map, List.length_take]; omega

theorem own_kk3 {w : World} {a : Option Addr} {k c n : Nat} {us : List Value} (h : Rv w (.slice a k c) n us) : n = k := by
  obtain ⟨_, _, e, _⟩ := h
  cases e; rfl

end Go.Proofs.YtmofakcpldbbmaaDoor
