/- Steps that turn a footprint's blocks alone; what lies apart. Program-independent. -/
import Derived.Test.YtpehnggglolnoaaLib
namespace Go.Proofs.Ytpehnggglolnoaa
open Go.RowKit

/-- A goal that a walk leaves alone. -/
def Later (p : Prop) : Prop := p
theorem later {p : Prop} (h : Later p) : p := h
theorem Later.in {p : Prop} (h : p) : Later p := h
/-- A fact that unification cannot look into. -/
structure Bx (p : Prop) : Prop where
  out : p

/-- Nothing but the disk's blocks X has changed, and X' is new beyond it. -/
structure DStep (X X' : Nat → Prop) (w w' : World) : Prop where
  os : w'.os = w.os
  tape : w'.tape = w.tape
  output : w'.output = w.output
  size : w.heap.size ≤ w'.heap.size
  block : ∀ k, k < w.heap.size → ¬ X k → w'.heap[k]? = w.heap[k]?
  grow : ∀ k, X' k → X k ∨ w.heap.size ≤ k
theorem DStep.refl (X : Nat → Prop) (w : World) : DStep X X w w := ⟨rfl, rfl, rfl, Nat.le_refl _, fun _ _ _ => rfl, fun _ h => .inl h⟩
theorem DStep.trans {X X1 X2 : Nat → Prop} {w w1 w2 : World} (h : DStep X X1 w w1) (h' : DStep X1 X2 w1 w2) : DStep X X2 w w2 :=
  ⟨h'.os.trans h.os, h'.tape.trans h.tape, h'.output.trans h.output, Nat.le_trans h.size h'.size, fun k hk hX => (h'.block k (Nat.lt_of_lt_of_le hk h.size) (fun h1 => by
    rcases h.grow k h1 with h2 | h2
    · exact hX h2
    · omega)).trans (h.block k hk hX), fun k hk => by
    rcases h'.grow k hk with h1 | h1
    · exact h.grow k h1
    · exact .inr (Nat.le_trans h.size h1)⟩
theorem DStep.ofBelow (X : Nat → Prop) {w w' : World} (B : Below w.heap.size w w') : DStep X X w w' := ⟨B.os, B.tape, B.output, B.size, fun k hk _ => B.block k hk, fun _ h => .inl h⟩
theorem ownGrown0 {w w' : World} {base : Nat} {e : TypeId} {size : Nat} {v : Value} {n : Nat} {xs : List Value} {row : Option Nat} (h : w.ownsRow base e size v n xs) (hg : w.grownBy w' row) (h2 : ∀ g, v.ownBlock = some g → row ≠ some g) : w'.ownsRow base e size v n xs := by
  obtain ⟨hl, h | ⟨g, cap, cur, rfl, hb1, hg1, hn, hc, hs', ht⟩⟩ := h
  · exact ⟨hl, .inl h⟩
  · exact ⟨hl, .inr ⟨g, cap, cur, rfl, hb1, (hg.block g (Array.getElem?_eq_some_iff.1 hg1).1 (fun e => h2 g rfl e.symm)).trans hg1, hn, hc, hs', ht⟩⟩
/-- A row lies as it lay where its block does. -/
theorem own_same {w w' : World} {base size n : Nat} {e : TypeId} {v : Value} {xs : List Value} (h : w.ownsRow base e size v n xs) (hb : ∀ b, v.ownBlock = some b → w'.heap[b]? = w.heap[b]?) : w'.ownsRow base e size v n xs := by
  obtain ⟨hl, h | ⟨g, cap, cur, rfl, hb1, hg1, hn, hc, hs', ht⟩⟩ := h
  · exact ⟨hl, .inl h⟩
  · exact ⟨hl, .inr ⟨g, cap, cur, rfl, hb1, (hb g rfl).trans hg1, hn, hc, hs', ht⟩⟩
theorem rvSame {w w' : World} {v : Value} {n : Nat} {us : List Value} (h : Rv w v n us) (hk : ∀ g, g < w.heap.size → v.ownBlock = some g → w'.heap[g]? = w.heap[g]?) : Rv w' v n us := by
  obtain ⟨ao, cap, rfl, h1, h3, h4, h5⟩ := h
  refine ⟨ao, cap, rfl, h1, h3, h4, ?_⟩
  rcases h5 with h5 | ⟨g, off, rfl, h5⟩
  · exact .inl h5
  · refine .inr ⟨g, off, rfl, fun i u hi => ?_⟩
    have hc := h5 i u hi
    have hg := World.block_lt_of_cell? w _ hc
    unfold World.cell? at hc ⊢
    rw [hk g hg rfl]
    exact hc
theorem own_isSlice {w : World} {base size : Nat} {e : TypeId} {v : Value} {n : Nat} {xs : List Value} (h : w.ownsRow base e size v n xs) : ∃ a c, v = .slice a n c := by
  rcases h.2 with ⟨rfl, rfl⟩ | ⟨g, cap, cur, rfl, _⟩
  · exact ⟨_, _, rfl⟩
  · exact ⟨_, _, rfl⟩
/-- Rows over elements of two types lie in two blocks. -/
theorem own_types {w : World} {base base' : Nat} {e e' : TypeId} {size size' : Nat} {v v' : Value} {n n' : Nat} {xs xs' : List Value} (h : w.ownsRow base e size v n xs) (h' : w.ownsRow base' e' size' v' n' xs') (hne : e ≠ e') : ∀ g, v.ownBlock = some g → v'.ownBlock ≠ some g := by
  intro g hg hg'
  obtain ⟨_, ⟨rfl, _⟩ | ⟨g1, cap, cur, rfl, hb, hk, _⟩⟩ := h
  · cases hg
  obtain ⟨_, ⟨rfl, _⟩ | ⟨g2, cap2, cur2, rfl, hb2, hk2, _⟩⟩ := h'
  · cases hg'
  cases hg
  cases hg'
  rw [hk] at hk2
  cases hk2
  exact hne rfl
/-- What two things lie in is apart. -/
def Sep (X Z : Nat → Prop) : Prop := ∀ b, X b → ¬ Z b
def Off (v : Value) (X : Nat → Prop) : Prop := ∀ b, v.ownBlock = some b → ¬ X b
section
variable {w w' : World} {X X' Y Z : Nat → Prop}
theorem Sep.step (hs : Sep X Z) (S : DStep X X' w w') (hz : ∀ b, Z b → b < w.heap.size) : Sep X' Z := fun b hb hZ => (S.grow b hb).elim (fun h => hs b h hZ) (fun h => by have := hz b hZ; omega)
theorem Sep.symm (hs : Sep X Z) : Sep Z X := fun b hz hx => hs b hx hz
theorem Off.step {base n size : Nat} {e : TypeId} {v : Value} {xs : List Value} (ho : Off v X) (S : DStep X X' w w') (hO : w.ownsRow base e size v n xs) : Off v X' := fun b hb hx => (S.grow b hx).elim (ho b hb) (fun h => by have := (hO.lt b hb).2; omega)
theorem own_step {base n size : Nat} {e : TypeId} {v : Value} {xs : List Value} (hO : w.ownsRow base e size v n xs) (S : DStep X X' w w') (ho : Off v X) : w'.ownsRow base e size v n xs := own_same hO (fun b hb => S.block b (hO.lt b hb).2 (ho b hb))
theorem Off.ge {base n size : Nat} {e : TypeId} {v : Value} {xs : List Value} (hO : w.ownsRow base e size v n xs) (hX : ∀ b, X b → b < base) : Off v X := fun b hb hx => by have := (hO.lt b hb).1; have := hX b hx; omega
theorem Off.lo {base n size : Nat} {e : TypeId} {v : Value} {xs : List Value} (hO : w.ownsRow base e size v n xs) (hX : ∀ b, X b → w.heap.size ≤ b) : Off v X := fun b hb hx => by have := (hO.lt b hb).2; have := hX b hx; omega
theorem rv_step {v : Value} {n : Nat} {us : List Value} (h : Rv w v n us) (S : DStep X X' w w') (ho : Off v X) : Rv w' v n us := rvSame h (fun g hg hv => S.block g hg (ho g hv))
theorem DStep.toBelow (S : DStep X X' w w') {B : Nat} (hB : B ≤ w.heap.size) (hX : ∀ b, X b → B ≤ b) : Below B w w' := ⟨S.os, S.tape, S.output, S.size, fun k hk => S.block k (by omega) (fun hx => by have := hX k hx; omega)⟩
theorem DStep.ge (S : DStep X X' w w') {B : Nat} (hB : B ≤ w.heap.size) (hX : ∀ b, X b → B ≤ b) : ∀ b, X' b → B ≤ b := fun b hb => (S.grow b hb).elim (hX b) (fun h => by omega)
theorem DStep.wide (S : DStep X X' w w') (A : Nat → Prop) : DStep (fun b => X b ∨ A b) (fun b => X' b ∨ A b) w w' :=
  ⟨S.os, S.tape, S.output, S.size, fun k hk hX => S.block k hk (fun h => hX (.inl h)), fun k h => h.elim (fun h => (S.grow k h).elim (fun h => .inl (.inl h)) .inr) (fun h => .inl (.inr h))⟩
/-- A cell of its own blocks, or of a new one, is set. -/
theorem DStep.set (S : DStep X X' w w') {b i : Nat} (hb : X b ∨ w.heap.size ≤ b) (v : Value) : DStep X X' w (w'.setCell ⟨b, i, none⟩ v) :=
  ⟨S.os, S.tape, S.output, by rw [World.size_setCell]; exact S.size, fun k hk hX => (Below.heap_setCell _ _ _ _ (fun e => hb.elim (fun h => hX (by rw [show k = b from e]; exact h)) (fun h => by have : k = b := e; omega))).trans (S.block k hk hX), S.grow⟩
end
end Go.Proofs.Ytpehnggglolnoaa
