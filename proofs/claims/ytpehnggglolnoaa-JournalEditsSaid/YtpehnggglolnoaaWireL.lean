/- A Writer and a Reader that the caller makes. -/
import Derived.Test.YtpehnggglolnoaaRead4
import Derived.Test.YtpehnggglolnoaaReadR
namespace Go.Proofs.Ytpehnggglolnoaa
open Go.RowKit

theorem Wr.new (w : World) : Wr (w.alloc (.cells #[.slice none 0 0] 70)) w.heap.size (.slice none 0 0) [] :=
  ⟨Boxed.new w _ _, World.ownsRow_nil _ _ _ _⟩
theorem WStep.bel {W w w' : World} {b : Nat} {v v' : Value} {bs : List UInt8} (h : WStep w w' b v v') (hw : Wr w b v bs) (hB : Below W.heap.size W w) (hb : W.heap.size ≤ b) : Below W.heap.size W w' :=
  hB.trans ((h.below hw).mono hb)
theorem Rst.later {w w' : World} {b : Nat} {v : Value} {bs : List UInt8} {s : RS} (h : Rst w b v bs s) (hb : Below w.heap.size w w') : Rst w' b v bs s := h.next h (.refl _ _) hb
theorem BStep.bel {W w w' : World} {b : Nat} (h : BStep b w w') (hB : Below W.heap.size W w) (hb : W.heap.size ≤ b) (hlt : b < w.heap.size) : Below W.heap.size W w' := hB.trans (h.below _ hb hlt)
theorem Made.len {w w' : World} {e : TypeId} {v : Value} {us : List Value} (h : Made w w' e v us) : ∃ ao cap, v = .slice ao us.length cap := by
  obtain ⟨ao, cap, h1, _, _⟩ := h.rv.opened
  exact ⟨ao, cap, h1⟩
theorem Wr.later {w w' : World} {b : Nat} {v : Value} {bs : List UInt8} (h : Wr w b v bs) (hb : Below w.heap.size w w') : Wr w' b v bs :=
  ⟨(hb.block b h.1.lt).trans h.1, own_below h.2 hb⟩
end Go.Proofs.Ytpehnggglolnoaa
