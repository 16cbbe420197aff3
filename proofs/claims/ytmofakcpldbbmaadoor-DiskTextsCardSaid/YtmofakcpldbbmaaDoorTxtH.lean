/- Package text: Undo; the model's equality of edits. -/
import Derived.Test.YtmofakcpldbbmaaDoorTxtG
import Derived.Laws.ResultCell
namespace Go.Proofs.YtmofakcpldbbmaaDoor
open Go.RowKit

/-- The edit that undoes an edit. -/
def und (l : List Int) (e : Ed) : Ed := ⟨e.a, (e.s.length : Int), (l.drop e.a.toNat).take e.d.toNat⟩
def undR (l : List Int) (e : Ed) : Ed := if chkE l.length e = 0 then und l e else ⟨0, 0, []⟩
def UdPost (w : World) (r : Int) (u : Ed) (en : Ending) (w' : World) : Prop := ∃ v', en = .returned (.tuple #[u.val v', .int .i64 r]) ∧ w'.ownsRow w.heap.size 3 1 v' u.s.length (u.s.map (Value.int .i64)) ∧ Below w.heap.size w w'

def threeV (w : World) (b : Nat) (c0 c1 c2 : Value) : World := ((w.setCell ⟨b, 0, none⟩ c0).setCell ⟨b, 1, none⟩ c1).setCell ⟨b, 2, none⟩ c2
theorem heap_set3 {w : World} {b : Nat} {cs : Array Value} {t : TypeId} (h : w.heap[b]? = some (.cells cs t (0, 0))) (j : Nat) (x : Value) : (w.setCell ⟨b, j, none⟩ x).heap[b]? = some (.cells (cs.setIfInBounds j x) t (0, 0)) := by
  obtain ⟨hlt, hk⟩ := Array.getElem?_eq_some_iff.1 h
  show (w.heap.modify b _)[b]? = _
  rw [Array.getElem?_eq_getElem (by rw [Array.size_modify]; exact hlt), Array.getElem_modify_self, hk]
  rfl
theorem threeV_below {w0 w : World} {n b : Nat} (h : Below n w0 w) (hn : n ≤ b) (c0 c1 c2 : Value) : Below n w0 (threeV w b c0 c1 c2) :=
  ((h.setCell (p := ⟨b, 0, none⟩) hn c0).setCell (p := ⟨b, 1, none⟩) hn c1).setCell (p := ⟨b, 2, none⟩) hn c2
theorem threeV_far {w : World} {b k : Nat} (hk : k ≠ b) (c0 c1 c2 : Value) : (threeV w b c0 c1 c2).heap[k]? = w.heap[k]? := by
  unfold threeV
  rw [Below.heap_setCell _ _ _ _ hk, Below.heap_setCell _ _ _ _ hk, Below.heap_setCell _ _ _ _ hk]
theorem own_three {w : World} {base b : Nat} {e : TypeId} {size : Nat} {v : Value} {n : Nat} {xs : List Value} (h : w.ownsRow base e size v n xs) (hb : b < base) (c0 c1 c2 : Value) : (threeV w b c0 c1 c2).ownsRow base e size v n xs := by
  obtain ⟨hl, h | ⟨g, cap, cur, rfl, hb1, hg, hn, hc, hs, ht⟩⟩ := h
  · exact ⟨hl, .inl h⟩
  · exact ⟨hl, .inr ⟨g, cap, cur, rfl, hb1, (threeV_far (by omega) c0 c1 c2).trans hg, hn, hc, hs, ht⟩⟩

end Go.Proofs.YtmofakcpldbbmaaDoor
