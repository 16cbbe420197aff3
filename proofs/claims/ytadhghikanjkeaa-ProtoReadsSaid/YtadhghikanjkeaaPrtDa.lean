/- The model's Decode: what is known along the way. -/
import Derived.Test.YtadhghikanjkeaaPrtJ
import Derived.Test.YtadhghikanjkeaaPrtS
import Derived.Test.YtadhghikanjkeaaPrtU
import Derived.Test.YtadhghikanjkeaaMod4
namespace Go.Proofs.Ytadhghikanjkeaa
open Go.RowKit

/-- Six cells of a model's message's block. -/
structure R6 (W : World) (b : Nat) (x1 x2 x3 x4 : Int) (bv fv : Value) : Prop where
  blk : W.heap[b]? = some (msgR x1 x2 x3 x4 bv fv)
section
variable {W : World} {b : Nat} {x1 x2 x3 x4 : Int} {bv fv : Value}
theorem R6.k0 (h : R6 W b x1 x2 x3 x4 bv fv) : W.cell? ⟨b, 0, none⟩ = some (.int .i64 x1) := by have := h.blk; unfold msgR at this; simp [World.cell?, this]
theorem R6.k1 (h : R6 W b x1 x2 x3 x4 bv fv) : W.cell? ⟨b, 1, none⟩ = some (.int .i64 x2) := by have := h.blk; unfold msgR at this; simp [World.cell?, this]
theorem R6.k2 (h : R6 W b x1 x2 x3 x4 bv fv) : W.cell? ⟨b, 2, none⟩ = some (.int .i64 x3) := by have := h.blk; unfold msgR at this; simp [World.cell?, this]
theorem R6.k3 (h : R6 W b x1 x2 x3 x4 bv fv) : W.cell? ⟨b, 3, none⟩ = some (.int .i64 x4) := by have := h.blk; unfold msgR at this; simp [World.cell?, this]
theorem R6.k4 (h : R6 W b x1 x2 x3 x4 bv fv) : W.cell? ⟨b, 4, none⟩ = some bv := by have := h.blk; unfold msgR at this; simp [World.cell?, this]
theorem R6.k5 (h : R6 W b x1 x2 x3 x4 bv fv) : W.cell? ⟨b, 5, none⟩ = some fv := by have := h.blk; unfold msgR at this; simp [World.cell?, this]
theorem R6.fz (h : R6 W b x1 x2 x3 x4 bv fv) (j : Nat) : W.frozen? ⟨b, j, none⟩ = false := by have := h.blk; unfold msgR at this; simp [World.frozen?, this]
theorem R6.lt (h : R6 W b x1 x2 x3 x4 bv fv) : b < W.heap.size := (Array.getElem?_eq_some_iff.1 h.blk).1
theorem R6.drew (h : R6 W b x1 x2 x3 x4 bv fv) : R6 W.drew b x1 x2 x3 x4 bv fv := ⟨h.blk⟩
end
/-- The result's block, still zero. -/
structure DmI (w W : World) : Prop where
  res : R6 W w.heap.size 0 0 0 0 (.slice none 0 0) (.slice none 0 0)
  bel : Below w.heap.size w W
theorem DmI.start (w : World) : DmI w (w.alloc (msgR 0 0 0 0 (.slice none 0 0) (.slice none 0 0))) := ⟨⟨World.alloc_heap_new w _⟩, (Below.refl _ w).alloc (Nat.le_refl _) _⟩
theorem DmI.later {w W W' : World} (h : DmI w W) (B : Below W.heap.size W W') : DmI w W' := ⟨⟨(B.block _ h.res.lt).trans h.res.blk⟩, h.bel.trans (B.mono h.bel.size)⟩
theorem DmI.drew {w W : World} (h : DmI w W) : DmI w W.drew := ⟨⟨h.res.blk⟩, h.bel.drew⟩
theorem DmI.drewN {w W : World} (h : DmI w W) (n : Nat) : DmI w (W.drewN n) := ⟨⟨h.res.blk⟩, belD h.bel n⟩

theorem leVal4 (b : List UInt8) (e0 e1 e2 e3 : UInt8) (h : b.take 4 = [e0, e1, e2, e3]) : (leVal (b.take 4) : Int) = (e0.toNat : Int) + 256 * e1.toNat + 65536 * e2.toNat + 16777216 * e3.toNat ∧ leVal (b.take 4) < 4294967296 := by
  rw [h]
  simp only [leVal]
  have := e0.toNat_lt; have := e1.toNat_lt; have := e2.toNat_lt; have := e3.toNat_lt
  omega
theorem four (l : List UInt8) (h : l.length = 4) : ∃ e0 e1 e2 e3, l = [e0, e1, e2, e3] := by
  match l, h with
  | [e0, e1, e2, e3], _ => exact ⟨_, _, _, _, rfl⟩
theorem ne_bool (a b : List UInt8) : (!(a == b)) = decide (a ≠ b) := by
  by_cases h : a = b <;> simp [h]
/-- Where the model's Decode stands: the result's block, the reader in block R, the message in the next block. -/
structure MdS (w W : World) (R : Nat) (s : RS) (x1 x2 x3 x4 : Int) (bv fv : Value) (bs : List UInt8) (l : List F3) : Prop where
  res : R6 W w.heap.size 0 0 0 0 (.slice none 0 0) (.slice none 0 0)
  rst : Mst W R w.heap.size s
  blk : R6 W (R + 1) x1 x2 x3 x4 bv fv
  body : W.ownsRow (R + 2) 5 1 bv bs.length (bs.map vB)
  own : W.ownsRow (R + 2) 79 3 fv l.length (fcells l)
  sep : ∀ b, bv.ownBlock = some b → fv.ownBlock ≠ some b
  lt : w.heap.size < R
  bel : Below w.heap.size w W
section
variable {w W W' : World} {R : Nat} {s s' : RS} {x1 x2 x3 x4 : Int} {bv fv : Value} {bs : List UInt8} {l : List F3}
theorem MdS.toI (h : MdS w W R s x1 x2 x3 x4 bv fv bs l) : DmI w W := ⟨h.res, h.bel⟩
theorem MdS.call (h : MdS w W R s x1 x2 x3 x4 bv fv bs l) (T : Mst W' R w.heap.size s') (S : BStep R W W') : MdS w W' R s' x1 x2 x3 x4 bv fv bs l :=
  have h1 := h.lt
  ⟨⟨(S.block _ h.res.lt (by omega)).trans h.res.blk⟩, T, ⟨(S.block _ h.blk.lt (by omega)).trans h.blk.blk⟩, own_bstep h.body S (by omega), own_bstep h.own S (by omega), h.sep, h.lt,
    h.bel.trans (S.below _ (by omega) h.rst.lt)⟩
theorem MdS.later (h : MdS w W R s x1 x2 x3 x4 bv fv bs l) (B : Below W.heap.size W W') : MdS w W' R s x1 x2 x3 x4 bv fv bs l := h.call (h.rst.later B) (BStep.of_below B)
theorem MdS.drew (h : MdS w W R s x1 x2 x3 x4 bv fv bs l) : MdS w W.drew R s x1 x2 x3 x4 bv fv bs l := h.later (Below.refl _ _).drew
theorem MdS.alloc (h : MdS w W R s x1 x2 x3 x4 bv fv bs l) (o : Obj) : MdS w (W.alloc o) R s x1 x2 x3 x4 bv fv bs l := h.later ((Below.refl _ _).alloc (Nat.le_refl _) o)
theorem ownSetFar {e : TypeId} {base size n b j : Nat} {v x : Value} {xs : List Value} (h : W.ownsRow base e size v n xs) (hb : b < base) : (W.setCell ⟨b, j, none⟩ x).ownsRow base e size v n xs := ownSet h hb _ _
/-- A cell of the message's block is set. -/
theorem MdS.put (h : MdS w W R s x1 x2 x3 x4 bv fv bs l) (j : Nat) (x : Value) {y1 y2 y3 y4 : Int} {bv' fv' : Value} (hx : R6 (W.setCell ⟨R + 1, j, none⟩ x) (R + 1) y1 y2 y3 y4 bv' fv') {bs' : List UInt8} {l' : List F3}
    (hb : W.ownsRow (R + 2) 5 1 bv' bs'.length (bs'.map vB)) (hf : W.ownsRow (R + 2) 79 3 fv' l'.length (fcells l')) (hs : ∀ b, bv'.ownBlock = some b → fv'.ownBlock ≠ some b) :
    MdS w (W.setCell ⟨R + 1, j, none⟩ x) R s y1 y2 y3 y4 bv' fv' bs' l' :=
  have h1 := h.lt
  ⟨⟨(Below.heap_setCell _ _ _ _ (by simp; omega)).trans h.res.blk⟩, h.rst.bstep ((BStep.refl (R + 1) W).set j x) (by omega) (by omega), hx, ownSetFar hb (by omega), ownSetFar hf (by omega), hs, h.lt, h.bel.setCell (p := ⟨R + 1, j, none⟩) (by simp; omega) x⟩
theorem R6.set0 {b : Nat} (h : R6 W b x1 x2 x3 x4 bv fv) (y : Int) : R6 (W.setCell ⟨b, 0, none⟩ (.int .i64 y)) b y x2 x3 x4 bv fv := ⟨by have := setSame (i := 0) h.blk (.int .i64 y); simpa [msgR] using this⟩
theorem R6.set1 {b : Nat} (h : R6 W b x1 x2 x3 x4 bv fv) (y : Int) : R6 (W.setCell ⟨b, 1, none⟩ (.int .i64 y)) b x1 y x3 x4 bv fv := ⟨by have := setSame (i := 1) h.blk (.int .i64 y); simpa [msgR] using this⟩
theorem R6.set2 {b : Nat} (h : R6 W b x1 x2 x3 x4 bv fv) (y : Int) : R6 (W.setCell ⟨b, 2, none⟩ (.int .i64 y)) b x1 x2 y x4 bv fv := ⟨by have := setSame (i := 2) h.blk (.int .i64 y); simpa [msgR] using this⟩
theorem R6.set3 {b : Nat} (h : R6 W b x1 x2 x3 x4 bv fv) (y : Int) : R6 (W.setCell ⟨b, 3, none⟩ (.int .i64 y)) b x1 x2 x3 y bv fv := ⟨by have := setSame (i := 3) h.blk (.int .i64 y); simpa [msgR] using this⟩
theorem R6.set4 {b : Nat} (h : R6 W b x1 x2 x3 x4 bv fv) (y : Value) : R6 (W.setCell ⟨b, 4, none⟩ y) b x1 x2 x3 x4 y fv := ⟨by have := setSame (i := 4) h.blk y; simpa [msgR] using this⟩
theorem R6.set5 {b : Nat} (h : R6 W b x1 x2 x3 x4 bv fv) (y : Value) : R6 (W.setCell ⟨b, 5, none⟩ y) b x1 x2 x3 x4 bv y := ⟨by have := setSame (i := 5) h.blk y; simpa [msgR] using this⟩
theorem MdS.set0 (h : MdS w W R s x1 x2 x3 x4 bv fv bs l) (y : Int) : MdS w (W.setCell ⟨R + 1, 0, none⟩ (.int .i64 y)) R s y x2 x3 x4 bv fv bs l := h.put 0 _ (h.blk.set0 y) h.body h.own h.sep
theorem MdS.set1 (h : MdS w W R s x1 x2 x3 x4 bv fv bs l) (y : Int) : MdS w (W.setCell ⟨R + 1, 1, none⟩ (.int .i64 y)) R s x1 y x3 x4 bv fv bs l := h.put 1 _ (h.blk.set1 y) h.body h.own h.sep
theorem MdS.set2 (h : MdS w W R s x1 x2 x3 x4 bv fv bs l) (y : Int) : MdS w (W.setCell ⟨R + 1, 2, none⟩ (.int .i64 y)) R s x1 x2 y x4 bv fv bs l := h.put 2 _ (h.blk.set2 y) h.body h.own h.sep
theorem MdS.set3 (h : MdS w W R s x1 x2 x3 x4 bv fv bs l) (y : Int) : MdS w (W.setCell ⟨R + 1, 3, none⟩ (.int .i64 y)) R s x1 x2 x3 y bv fv bs l := h.put 3 _ (h.blk.set3 y) h.body h.own h.sep
theorem bstepGrown {row : Option Nat} (hg : W.grownBy W' row) : ∃ c, BStep c W W' ∧ (row = some c ∨ W.heap.size ≤ c) := by
  cases row with
  | none => exact ⟨W.heap.size, ⟨hg.os, hg.tape, hg.output, hg.size, fun k hk _ => hg.block k hk (by simp)⟩, .inr (Nat.le_refl _)⟩
  | some c => exact ⟨c, ⟨hg.os, hg.tape, hg.output, hg.size, fun k hk hc => hg.block k hk (fun e => hc (Option.some.inj e))⟩, .inl rfl⟩
/-- A row that is not the message's grows; then it is set as the body. -/
theorem MdS.setB (h : MdS w W R s x1 x2 x3 x4 bv fv bs l) {v v' : Value} {bs' : List UInt8} (hg : W.grownBy W' v.ownBlock) (hv : ∀ b, v.ownBlock = some b → R + 2 ≤ b ∧ fv.ownBlock ≠ some b) (hs : SameOrNew W v v')
    (ho : W'.ownsRow (R + 2) 5 1 v' bs'.length (bs'.map vB)) : MdS w (W'.setCell ⟨R + 1, 4, none⟩ v') R s x1 x2 x3 x4 v' fv bs' l := by
  have h1 := h.lt
  have hB : Below (R + 2) W W' := ⟨hg.os, hg.tape, hg.output, hg.size, fun k hk => hg.block k (by have := h.blk.lt; omega) (fun e => by have := (hv k e.symm).1; omega)⟩
  obtain ⟨c, hc, hc2⟩ := bstepGrown hg
  have hcR : R + 2 ≤ c := by
    rcases hc2 with e | e
    · exact (hv c e).1
    · have := h.blk.lt; omega
  have hfo : W'.ownsRow (R + 2) 79 3 fv l.length (fcells l) := ownGrown h.own hg (fun b hb e => (hv b e).2 hb)
  have hb2 := (hB.block _ (by omega : R + 1 < R + 2)).trans h.blk.blk
  have q : R6 (W'.setCell ⟨R + 1, 4, none⟩ v') (R + 1) x1 x2 x3 x4 v' fv := R6.set4 ⟨hb2⟩ v'
  refine ⟨⟨(Below.heap_setCell _ _ _ _ (by simp; omega)).trans ((hB.block _ (by omega)).trans h.res.blk)⟩, (h.rst.bstep hc (by omega) (by omega)).bstep ((BStep.refl (R + 1) W').set 4 v') (by omega) (by omega), q, ownSetFar ho (by omega), ownSetFar hfo (by omega), (fun b hb e => by
    rcases hs with e2 | e2
    · rw [e2] at hb; exact (hv b hb).2 e
    · have := e2 b hb; have := (h.own.lt b e).2; omega), h.lt, (h.bel.trans (hB.mono (by omega))).setCell (p := ⟨R + 1, 4, none⟩) (by simp; omega) v'⟩
/-- One found more. -/
theorem MdS.push (h : MdS w W R s x1 x2 x3 x4 bv fv bs l) {fv' : Value} {l' : List F3} (hg : W.grownBy W' fv.ownBlock) (hs : SameOrNew W fv fv') (ho : W'.ownsRow (R + 2) 79 3 fv' l'.length (fcells l')) :
    MdS w (W'.setCell ⟨R + 1, 5, none⟩ fv') R s x1 x2 x3 x4 bv fv' bs l' := by
  have h1 := h.lt
  have hlt := h.own.lt
  have hB : Below (R + 2) W W' := ⟨hg.os, hg.tape, hg.output, hg.size, fun k hk => hg.block k (by have := h.blk.lt; omega) (fun e => by have := (hlt k e.symm).1; omega)⟩
  obtain ⟨c, hc, hc2⟩ := bstepGrown hg
  have hcR : R + 2 ≤ c := by
    rcases hc2 with e | e
    · exact (hlt c e).1
    · have := h.blk.lt; omega
  have hb2 := (hB.block _ (by omega : R + 1 < R + 2)).trans h.blk.blk
  have q : R6 (W'.setCell ⟨R + 1, 5, none⟩ fv') (R + 1) x1 x2 x3 x4 bv fv' := R6.set5 ⟨hb2⟩ fv'
  exact ⟨⟨(Below.heap_setCell _ _ _ _ (by simp; omega)).trans ((hB.block _ (by omega)).trans h.res.blk)⟩, (h.rst.bstep hc (by omega) (by omega)).bstep ((BStep.refl (R + 1) W').set 5 fv') (by omega) (by omega), q, ownSetFar (ownGrown h.body hg (fun b hb e => h.sep b hb e)) (by omega), ownSetFar ho (by omega), (fun b hb e => by
    rcases hs with e2 | e2
    · rw [e2] at e; exact h.sep b hb e
    · have := e2 b e; have := (h.body.lt b hb).2; omega), h.lt, (h.bel.trans (hB.mono (by omega))).setCell (p := ⟨R + 1, 5, none⟩) (by simp; omega) fv'⟩
end
theorem ownFar {W W' : World} {base c size n : Nat} {e : TypeId} {v : Value} {xs : List Value} (h : W.ownsRow base e size v n xs) (S : BStep c W W') (hv : v.ownBlock ≠ some c) : W'.ownsRow base e size v n xs := by
  obtain ⟨hl, h | ⟨g, cap, cur, rfl, hb1, hg1, hn, hc, hs', ht⟩⟩ := h
  · exact ⟨hl, .inl h⟩
  · exact ⟨hl, .inr ⟨g, cap, cur, rfl, hb1, (S.block g (Array.getElem?_eq_some_iff.1 hg1).1 (fun e => hv (by rw [← e]; rfl))).trans hg1, hn, hc, hs', ht⟩⟩
/-- Another block is turned. -/
theorem MdS.other {w W W' : World} {R c : Nat} {s : RS} {x1 x2 x3 x4 : Int} {bv fv : Value} {bs : List UInt8} {l : List F3} (h : MdS w W R s x1 x2 x3 x4 bv fv bs l) (S : BStep c W W') (hc : R + 2 ≤ c) (hlt : c < W.heap.size) (hb : bv.ownBlock ≠ some c) (hf : fv.ownBlock ≠ some c) :
    MdS w W' R s x1 x2 x3 x4 bv fv bs l :=
  have h1 := h.lt
  ⟨⟨(S.block _ h.res.lt (by omega)).trans h.res.blk⟩, h.rst.bstep S (by omega) (by omega), ⟨(S.block _ h.blk.lt (by omega)).trans h.blk.blk⟩, ownFar h.body S hb, ownFar h.own S hf, h.sep, h.lt, h.bel.trans (S.below _ (by omega) hlt)⟩
/-- A Found in a block of its own. -/
structure Fc (W : World) (F : Nat) (y1 y2 y3 : Int) : Prop where
  blk : W.heap[F]? = some (.cells #[.int .i64 y1, .int .i64 y2, .int .i64 y3] 79 (0, 0))
section
variable {W W' : World} {F c : Nat} {y1 y2 y3 : Int}
theorem Fc.k0 (h : Fc W F y1 y2 y3) : W.cell? ⟨F, 0, none⟩ = some (.int .i64 y1) := by simp [World.cell?, h.blk]
theorem Fc.k1 (h : Fc W F y1 y2 y3) : W.cell? ⟨F, 1, none⟩ = some (.int .i64 y2) := by simp [World.cell?, h.blk]
theorem Fc.k2 (h : Fc W F y1 y2 y3) : W.cell? ⟨F, 2, none⟩ = some (.int .i64 y3) := by simp [World.cell?, h.blk]
theorem Fc.fz (h : Fc W F y1 y2 y3) (j : Nat) : W.frozen? ⟨F, j, none⟩ = false := by simp [World.frozen?, h.blk]
theorem Fc.lt (h : Fc W F y1 y2 y3) : F < W.heap.size := (Array.getElem?_eq_some_iff.1 h.blk).1
theorem Fc.step (h : Fc W F y1 y2 y3) (S : BStep c W W') (hc : F ≠ c) : Fc W' F y1 y2 y3 := ⟨(S.block _ h.lt hc).trans h.blk⟩
theorem Fc.set0 (h : Fc W F y1 y2 y3) (y : Int) : Fc (W.setCell ⟨F, 0, none⟩ (.int .i64 y)) F y y2 y3 := ⟨by have := setSame (i := 0) h.blk (.int .i64 y); simpa using this⟩
theorem Fc.set1 (h : Fc W F y1 y2 y3) (y : Int) : Fc (W.setCell ⟨F, 1, none⟩ (.int .i64 y)) F y1 y y3 := ⟨by have := setSame (i := 1) h.blk (.int .i64 y); simpa using this⟩
theorem Fc.set2 (h : Fc W F y1 y2 y3) (y : Int) : Fc (W.setCell ⟨F, 2, none⟩ (.int .i64 y)) F y1 y2 y := ⟨by have := setSame (i := 2) h.blk (.int .i64 y); simpa using this⟩
end
theorem mint_eq {b D : Nat} (hD : D ≤ b) {s s1 : RS} {n : Int} {w : World} (e : rdI s = (n, s1)) (h : Mst w b D s) :
    Calls Try.prog 45 #[.pointer (some ⟨b, 0, none⟩)] w (MPost w b D s1 (.int .i64 n)) := by
  have := mint_any b D hD s w h
  rwa [e] at this
theorem raw_le {c bs : List UInt8} {s1 s2 s3 s4 s5 : RS} {x1 x2 x3 x4 : Int} (h1 : rdI (.ok c) = (x1, s1)) (h2 : rdI s1 = (x2, s2)) (h3 : rdI s2 = (x3, s3)) (h4 : rdI s3 = (x4, s4)) (h5 : rdRaw s4 = (bs, s5)) : bs.length ≤ c.length := by
  cases s5 with
  | error e =>
    rcases rdRaw_cases s4 with ⟨e, _, h⟩ | ⟨r, _, _, h⟩ | ⟨r, _, _, h⟩
    · rw [h] at h5; cases h5; simp
    · rw [h] at h5; cases h5; simp
    · rw [h] at h5; cases h5
  | ok r =>
    have e4 := rdRaw_ok h5
    rw [e4] at h4
    have e3 := rdI_ok h4
    rw [e3] at h3
    have e2 := rdI_ok h3
    rw [e2] at h2
    have e1 := rdI_ok h2
    rw [e1] at h1
    rw [rdI_inv c h1]
    simp only [List.length_append, rawW]
    omega
end Go.Proofs.Ytadhghikanjkeaa
