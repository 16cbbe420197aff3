/- The model's Made. -/
import Derived.Test.YtadhghikanjkeaaPrtK
namespace Go.Proofs.Ytadhghikanjkeaa
open Go.RowKit

def madeB (l : List Int) (a i : Nat) : UInt8 := UInt8.ofNat (pickM l (a + i) 256).toNat
def madeF (l : List Int) (a i : Nat) : F3 := ⟨pickM l (a + i) 500, pickM l (a + i + 1) 1073741824, pickM l (a + i + 2) 100⟩
def madeM (l : List Int) (a : Nat) : Msg :=
  ⟨pickM l a 7, pickM l (a + 1) 1000, pickM l (a + 2) 40 - 1, pickM l (a + 3) 23, (List.range (pickM l (a + 4) 12).toNat).map (madeB l a), (List.range (pickM l (a + 5) 4).toNat).map (madeF l a)⟩
theorem madeF_ok (l : List Int) (a i : Nat) : (madeF l a i).ok = true := by
  have h1 := pickM_lo l (a + i) 500 (by omega)
  have h2 := pickM_hi l (a + i) 500 (by omega)
  have h3 := pickM_lo l (a + i + 1) 1073741824 (by omega)
  have h4 := pickM_hi l (a + i + 1) 1073741824 (by omega)
  have h5 := pickM_lo l (a + i + 2) 100 (by omega)
  have h6 := pickM_hi l (a + i + 2) 100 (by omega)
  simp only [F3.ok, madeF, Bool.and_eq_true, inR_iff]
  omega
theorem madeM_small (l : List Int) (a : Nat) : (madeM l a).body.length ≤ 11 ∧ (madeM l a).fnd.length ≤ 3 := by
  have h1 := pickM_lo l (a + 4) 12 (by omega)
  have h2 := pickM_hi l (a + 4) 12 (by omega)
  have h3 := pickM_lo l (a + 5) 4 (by omega)
  have h4 := pickM_hi l (a + 5) 4 (by omega)
  simp only [madeM, List.length_map, List.length_range]
  omega
theorem madeM_valid (l : List Int) (a : Nat) : validM (madeM l a) = true := by
  have h1 := pickM_lo l a 7 (by omega)
  have h2 := pickM_hi l a 7 (by omega)
  have h3 := pickM_lo l (a + 1) 1000 (by omega)
  have h4 := pickM_hi l (a + 1) 1000 (by omega)
  have h5 := pickM_lo l (a + 2) 40 (by omega)
  have h6 := pickM_hi l (a + 2) 40 (by omega)
  have h7 := pickM_lo l (a + 3) 23 (by omega)
  have h8 := pickM_hi l (a + 3) 23 (by omega)
  have hs := madeM_small l a
  have hf : (madeM l a).fnd.all F3.ok = true := by
    rw [List.all_eq_true]
    intro f hf
    simp only [madeM, List.mem_map] at hf
    obtain ⟨i, _, rfl⟩ := hf
    exact madeF_ok l a i
  simp only [validM, headM, Bool.and_eq_true, inR_iff, decide_eq_true_eq, hf, and_true]
  have e1 : (madeM l a).k = pickM l a 7 := rfl
  have e2 : (madeM l a).c = pickM l (a + 1) 1000 := rfl
  have e3 : (madeM l a).v = pickM l (a + 2) 40 - 1 := rfl
  have e4 : (madeM l a).o = pickM l (a + 3) 23 := rfl
  rw [e1, e2, e3, e4]
  omega

def msgR (x1 x2 x3 x4 : Int) (bv fv : Value) : Obj := .cells #[.int .i64 x1, .int .i64 x2, .int .i64 x3, .int .i64 x4, bv, fv] 27 (0, 0)
/-- Where Made stands. -/
structure MaSt (w W : World) (x1 x2 x3 x4 : Int) (bv fv : Value) (bs : List UInt8) (l : List F3) : Prop where
  res : W.heap[w.heap.size]? = some (msgR 0 0 0 0 (.slice none 0 0) (.slice none 0 0))
  blk : W.heap[w.heap.size + 1]? = some (msgR x1 x2 x3 x4 bv fv)
  body : W.ownsRow (w.heap.size + 2) 5 1 bv bs.length (bs.map vB)
  own : W.ownsRow (w.heap.size + 2) 79 3 fv l.length (fcells l)
  apart : ∀ g, bv.ownBlock = some g → fv.ownBlock ≠ some g
  bel : Below w.heap.size w W
section
variable {w W W' : World} {x1 x2 x3 x4 : Int} {bv fv : Value} {bs : List UInt8} {l : List F3}
theorem MaSt.mlt (h : MaSt w W x1 x2 x3 x4 bv fv bs l) : w.heap.size + 1 < W.heap.size := (Array.getElem?_eq_some_iff.1 h.blk).1
theorem MaSt.c4 (h : MaSt w W x1 x2 x3 x4 bv fv bs l) : W.cell? ⟨w.heap.size + 1, 4, none⟩ = some bv := by
  have := h.blk
  unfold msgR at this
  simp [World.cell?, this]
theorem MaSt.c5 (h : MaSt w W x1 x2 x3 x4 bv fv bs l) : W.cell? ⟨w.heap.size + 1, 5, none⟩ = some fv := by
  have := h.blk
  unfold msgR at this
  simp [World.cell?, this]
theorem MaSt.fz (h : MaSt w W x1 x2 x3 x4 bv fv bs l) (j : Nat) : W.frozen? ⟨w.heap.size + 1, j, none⟩ = false := by
  have := h.blk
  unfold msgR at this
  simp [World.frozen?, this]
theorem MaSt.later (h : MaSt w W x1 x2 x3 x4 bv fv bs l) (B : Below W.heap.size W W') : MaSt w W' x1 x2 x3 x4 bv fv bs l :=
  ⟨(B.block _ (Array.getElem?_eq_some_iff.1 h.res).1).trans h.res, (B.block _ h.mlt).trans h.blk, own_below h.body B, own_below h.own B, h.apart, h.bel.trans (B.mono h.bel.size)⟩
theorem MaSt.alloc (h : MaSt w W x1 x2 x3 x4 bv fv bs l) (o : Obj) : MaSt w (W.alloc o) x1 x2 x3 x4 bv fv bs l := h.later ((Below.refl _ _).alloc (Nat.le_refl _) o)
theorem MaSt.drew (h : MaSt w W x1 x2 x3 x4 bv fv bs l) : MaSt w W.drew x1 x2 x3 x4 bv fv bs l := h.later (Below.refl _ _).drew
theorem ownGrown {w w' : World} {base : Nat} {e : TypeId} {size : Nat} {v : Value} {n : Nat} {xs : List Value} {row : Option Nat} (h : w.ownsRow base e size v n xs) (hg : w.grownBy w' row) (h2 : ∀ g, v.ownBlock = some g → row ≠ some g) : w'.ownsRow base e size v n xs := by
  obtain ⟨hl, h | ⟨g, cap, cur, rfl, hb1, hg1, hn, hc, hs', ht⟩⟩ := h
  · exact ⟨hl, .inl h⟩
  · refine ⟨hl, .inr ⟨g, cap, cur, rfl, hb1, ?_, hn, hc, hs', ht⟩⟩
    rw [hg.block g (Array.getElem?_eq_some_iff.1 hg1).1 (fun e => h2 g rfl e.symm)]
    exact hg1
theorem ownSet {w : World} {base b : Nat} {e : TypeId} {size : Nat} {v : Value} {n : Nat} {xs : List Value} (h : w.ownsRow base e size v n xs) (hb : b < base) (j : Nat) (x : Value) : (w.setCell ⟨b, j, none⟩ x).ownsRow base e size v n xs := by
  obtain ⟨hl, h | ⟨g, cap, cur, rfl, hb1, hg, hn, hc, hs', ht⟩⟩ := h
  · exact ⟨hl, .inl h⟩
  · exact ⟨hl, .inr ⟨g, cap, cur, rfl, hb1, (Below.heap_setCell _ _ _ _ (by simp; omega)).trans hg, hn, hc, hs', ht⟩⟩
theorem MaSt.pushB (h : MaSt w W x1 x2 x3 x4 bv fv bs l) {bv' : Value} {bs' : List UInt8} (hg : W.grownBy W' bv.ownBlock) (hs : SameOrNew W bv bv') (ho : W'.ownsRow (w.heap.size + 2) 5 1 bv' bs'.length (bs'.map vB)) :
    MaSt w (W'.setCell ⟨w.heap.size + 1, 4, none⟩ bv') x1 x2 x3 x4 bv' fv bs' l := by
  have hlt := h.body.lt
  have hm := h.mlt
  have hB : Below (w.heap.size + 2) W W' := ⟨hg.os, hg.tape, hg.output, hg.size, fun k hk => hg.block k (by omega) (fun e => by have := (hlt k e.symm).1; omega)⟩
  have hB2 : Below (w.heap.size + 1) W (W'.setCell ⟨w.heap.size + 1, 4, none⟩ bv') := (hB.mono (Nat.le_succ _)).setCell (p := ⟨w.heap.size + 1, 4, none⟩) (Nat.le_refl _) bv'
  have hbl : W'.heap[w.heap.size + 1]? = some (msgR x1 x2 x3 x4 bv fv) := (hB.block _ (by omega)).trans h.blk
  refine ⟨(hB2.block _ (by omega)).trans h.res, ?_, ownSet ho (by omega) _ _, ownSet (ownGrown h.own hg (fun g hg e => h.apart g e hg)) (by omega) _ _, ?_, h.bel.trans (hB2.mono (by omega))⟩
  · have := setSame (i := 4) hbl bv'
    simpa [msgR] using this
  · intro g hg2 hf
    rcases hs with hs | hs
    · rw [hs] at hg2; exact h.apart g hg2 hf
    · have := hs g hg2; have := (h.own.lt g hf).2; omega
theorem MaSt.pushF (h : MaSt w W x1 x2 x3 x4 bv fv bs l) {fv' : Value} {l' : List F3} (hg : W.grownBy W' fv.ownBlock) (hs : SameOrNew W fv fv') (ho : W'.ownsRow (w.heap.size + 2) 79 3 fv' l'.length (fcells l')) :
    MaSt w (W'.setCell ⟨w.heap.size + 1, 5, none⟩ fv') x1 x2 x3 x4 bv fv' bs l' := by
  have hlt := h.own.lt
  have hm := h.mlt
  have hB : Below (w.heap.size + 2) W W' := ⟨hg.os, hg.tape, hg.output, hg.size, fun k hk => hg.block k (by omega) (fun e => by have := (hlt k e.symm).1; omega)⟩
  have hB2 : Below (w.heap.size + 1) W (W'.setCell ⟨w.heap.size + 1, 5, none⟩ fv') := (hB.mono (Nat.le_succ _)).setCell (p := ⟨w.heap.size + 1, 5, none⟩) (Nat.le_refl _) fv'
  have hbl : W'.heap[w.heap.size + 1]? = some (msgR x1 x2 x3 x4 bv fv) := (hB.block _ (by omega)).trans h.blk
  refine ⟨(hB2.block _ (by omega)).trans h.res, ?_, ownSet (ownGrown h.body hg (fun g hg e => h.apart g hg e)) (by omega) _ _, ownSet ho (by omega) _ _, ?_, h.bel.trans (hB2.mono (by omega))⟩
  · have := setSame (i := 5) hbl fv'
    simpa [msgR] using this
  · intro g hg2 hf
    rcases hs with hs | hs
    · rw [hs] at hf; exact h.apart g hg2 hf
    · have := hs g hf; have := (h.body.lt g hg2).2; omega
end
end Go.Proofs.Ytadhghikanjkeaa
