/- A variable of type Val: a block of five cells. -/
import Derived.Test.YtofgcoapbocneaaEncR
namespace Go.Proofs.Ytofgcoapbocneaa
open Go.RowKit

def Box5 (w : World) (b : Nat) (c0 c1 c2 c3 c4 : Value) : Prop := w.heap[b]? = some (.cells #[c0, c1, c2, c3, c4] 47 (0, 0))
section
variable {w : World} {b : Nat} {c0 c1 c2 c3 c4 : Value}
theorem Box5.lt (h : Box5 w b c0 c1 c2 c3 c4) : b < w.heap.size := (Array.getElem?_eq_some_iff.1 h).1
theorem Box5.k0 (h : Box5 w b c0 c1 c2 c3 c4) : w.cell? ⟨b, 0, none⟩ = some c0 := by simp [World.cell?, show w.heap[b]? = _ from h]
theorem Box5.k1 (h : Box5 w b c0 c1 c2 c3 c4) : w.cell? ⟨b, 1, none⟩ = some c1 := by simp [World.cell?, show w.heap[b]? = _ from h]
theorem Box5.k2 (h : Box5 w b c0 c1 c2 c3 c4) : w.cell? ⟨b, 2, none⟩ = some c2 := by simp [World.cell?, show w.heap[b]? = _ from h]
theorem Box5.k3 (h : Box5 w b c0 c1 c2 c3 c4) : w.cell? ⟨b, 3, none⟩ = some c3 := by simp [World.cell?, show w.heap[b]? = _ from h]
theorem Box5.k4 (h : Box5 w b c0 c1 c2 c3 c4) : w.cell? ⟨b, 4, none⟩ = some c4 := by simp [World.cell?, show w.heap[b]? = _ from h]
theorem Box5.fr (h : Box5 w b c0 c1 c2 c3 c4) (j : Nat) : w.frozen? ⟨b, j, none⟩ = false := by simp [World.frozen?, show w.heap[b]? = _ from h]
theorem Box5.new (w : World) (c0 c1 c2 c3 c4 : Value) : Box5 (w.alloc (.cells #[c0, c1, c2, c3, c4] 47)) w.heap.size c0 c1 c2 c3 c4 := World.alloc_heap_new w _
theorem heap_set {w : World} {b : Nat} {cs : Array Value} {t : TypeId} (h : w.heap[b]? = some (.cells cs t (0, 0))) (j : Nat) (x : Value) : (w.setCell ⟨b, j, none⟩ x).heap[b]? = some (.cells (cs.setIfInBounds j x) t (0, 0)) := by
  obtain ⟨hlt, hk⟩ := Array.getElem?_eq_some_iff.1 h
  show (w.heap.modify b _)[b]? = _
  rw [Array.getElem?_eq_getElem (by rw [Array.size_modify]; exact hlt), Array.getElem_modify_self, hk]
  rfl
theorem Box5.s0 (h : Box5 w b c0 c1 c2 c3 c4) (x : Value) : Box5 (w.setCell ⟨b, 0, none⟩ x) b x c1 c2 c3 c4 := heap_set h 0 x
theorem Box5.s1 (h : Box5 w b c0 c1 c2 c3 c4) (x : Value) : Box5 (w.setCell ⟨b, 1, none⟩ x) b c0 x c2 c3 c4 := heap_set h 1 x
theorem Box5.s2 (h : Box5 w b c0 c1 c2 c3 c4) (x : Value) : Box5 (w.setCell ⟨b, 2, none⟩ x) b c0 c1 x c3 c4 := heap_set h 2 x
theorem Box5.s3 (h : Box5 w b c0 c1 c2 c3 c4) (x : Value) : Box5 (w.setCell ⟨b, 3, none⟩ x) b c0 c1 c2 x c4 := heap_set h 3 x
theorem Box5.s4 (h : Box5 w b c0 c1 c2 c3 c4) (x : Value) : Box5 (w.setCell ⟨b, 4, none⟩ x) b c0 c1 c2 c3 x := heap_set h 4 x
theorem Box5.kept {w' : World} (h : Box5 w b c0 c1 c2 c3 c4) (hk : w'.heap[b]? = w.heap[b]?) : Box5 w' b c0 c1 c2 c3 c4 := hk.trans h
theorem Box5.bstep {w' : World} {c : Nat} (h : Box5 w b c0 c1 c2 c3 c4) (hs : BStep c w w') (hne : b ≠ c) : Box5 w' b c0 c1 c2 c3 c4 := h.kept (hs.block b h.lt hne)
theorem Box5.alloc (h : Box5 w b c0 c1 c2 c3 c4) (o : Obj) : Box5 (w.alloc o) b c0 c1 c2 c3 c4 := h.kept (Below.heap_alloc _ _ _ h.lt)
end

theorem results_val {fn : Func} {p : Tmp} (hf : fn.results = #[.cell p 47]) (tmps : Array Value) {w : World} {b : Nat} {c0 c1 c2 c3 c4 : Value}
    (hp : tmps.getD p undef = .pointer (some ⟨b, 0, none⟩)) (h : Box5 w b c0 c1 c2 c3 c4) : (results fn tmps).run Try.prog w = .ok (.agg #[c0, c1, c2, c3, c4]) w := by
  have hp' : tmps[p]?.getD undef = .pointer (some ⟨b, 0, none⟩) := by simpa using hp
  have k0 := h.k0
  have k1 := h.k1
  have k2 := h.k2
  have k3 := h.k3
  have k4 := h.k4
  simp [results, hf, hp', go_sem, k0, k1, k2, k3, k4, Result.andThen]
end Go.Proofs.Ytofgcoapbocneaa
