/- Package proto: lists of messages; NewReader, Held. -/
import Derived.Test.YtadhghikanjkeaaPrtU
import Derived.Test.YtadhghikanjkeaaPrtV
namespace Go.Proofs.Ytadhghikanjkeaa
open Go.RowKit

theorem Try.infoM : (Try.prog.info? 33).map (fun i => (i.zero, i.size, i.bytes)) = some (some (.agg #[.int .i64 0, .int .i64 0, .int .i64 0, .int .i64 0, .slice none 0 0, .slice none 0 0]), 6, 80) := by kernel_rfl
theorem Try.elM : Elem Try.prog 65 33 (.agg #[.int .i64 0, .int .i64 0, .int .i64 0, .int .i64 0, .slice none 0 0, .slice none 0 0]) 6 80 := ⟨Try.underlying65, Try.infoM, rfl, by decide, by decide⟩

/-- A message and where its two slices lie. -/
structure MV where
  m : Msg
  ab : Option Addr
  af : Option Addr
  cb : Nat
  cf : Nat
def MV.body (p : MV) : Value := .slice p.ab p.m.body.length p.cb
def MV.fnd (p : MV) : Value := .slice p.af p.m.fnd.length p.cf
def MV.cells (p : MV) : List Value := [.int .i64 p.m.k, .int .i64 p.m.c, .int .i64 p.m.v, .int .i64 p.m.o, p.body, p.fnd]
def mvcells (l : List MV) : List Value := l.flatMap MV.cells
theorem mvcells_len (l : List MV) : (mvcells l).length = l.length * 6 := by
  induction l with
  | nil => rfl
  | cons p l ih =>
    have : mvcells (p :: l) = p.cells ++ mvcells l := rfl
    rw [this, List.length_append, ih, List.length_cons]
    simp [MV.cells]
    omega
/-- A list of messages that is the call's own; what they are made of is new and apart from the row. -/
structure MsL (w W : World) (v : Value) (l : List MV) : Prop where
  own : W.ownsRow w.heap.size 33 6 v l.length (mvcells l)
  rd : ∀ p ∈ l, Cells6 W p.m p.ab p.af p.cb p.cf
  low : ∀ p ∈ l, ∀ g, (p.body.ownBlock = some g ∨ p.fnd.ownBlock = some g) → w.heap.size ≤ g ∧ g < W.heap.size ∧ v.ownBlock ≠ some g
  bel : Below w.heap.size w W
theorem MsL.none (w : World) : MsL w w (.slice none 0 0) [] := ⟨World.ownsRow_nil _ _ _ _, (fun _ h => by cases h), (fun _ h => by cases h), Below.refl _ _⟩
theorem MsL.later {w W W' : World} {v : Value} {l : List MV} (h : MsL w W v l) (B : Below W.heap.size W W') : MsL w W' v l :=
  ⟨own_below h.own B, fun p hp => (h.rd p hp).below B, fun p hp g hg => ⟨(h.low p hp g hg).1, Nat.lt_of_lt_of_le (h.low p hp g hg).2.1 B.size, (h.low p hp g hg).2.2⟩, h.bel.trans (B.mono h.bel.size)⟩
theorem MsL.app {w W W' : World} {v v' : Value} {l : List MV} {p : MV} (h : MsL w W v l) (ho : W'.ownsRow w.heap.size 33 6 v' (l.length + 1) (mvcells l ++ p.cells)) (hg : W.grownBy W' v.ownBlock) (hs : SameOrNew W v v')
    (hc : Cells6 W p.m p.ab p.af p.cb p.cf) (hl : ∀ g, (p.body.ownBlock = some g ∨ p.fnd.ownBlock = some g) → w.heap.size ≤ g ∧ g < W.heap.size ∧ v.ownBlock ≠ some g) : MsL w W' v' (l ++ [p]) := by
  have far : ∀ (q : MV), (∀ g, (q.body.ownBlock = some g ∨ q.fnd.ownBlock = some g) → w.heap.size ≤ g ∧ g < W.heap.size ∧ v.ownBlock ≠ some g) → Cells6 W q.m q.ab q.af q.cb q.cf → Cells6 W' q.m q.ab q.af q.cb q.cf := fun q hq hc =>
    ⟨rvGrown hc.body hg (by
      cases hb : v.ownBlock with
      | none => exact .inl rfl
      | some c => exact .inr fun e => (hq c (.inl e.symm)).2.2 hb), rvGrown hc.fnd hg (by
      cases hb : v.ownBlock with
      | none => exact .inl rfl
      | some c => exact .inr fun e => (hq c (.inr e.symm)).2.2 hb)⟩
  have lo : ∀ (q : MV), (∀ g, (q.body.ownBlock = some g ∨ q.fnd.ownBlock = some g) → w.heap.size ≤ g ∧ g < W.heap.size ∧ v.ownBlock ≠ some g) → ∀ g, (q.body.ownBlock = some g ∨ q.fnd.ownBlock = some g) → w.heap.size ≤ g ∧ g < W'.heap.size ∧ v'.ownBlock ≠ some g := fun q hq g hg2 => by
    obtain ⟨h1, h2, h3⟩ := hq g hg2
    refine ⟨h1, Nat.lt_of_lt_of_le h2 hg.size, fun e => ?_⟩
    rcases hs with hs | hs
    · rw [hs] at e; exact h3 e
    · have := hs g e; omega
  refine ⟨?_, fun q hq => ?_, fun q hq => ?_, h.bel.grown hg h.bel.size (fun g hg' => (h.own.lt g hg').1)⟩
  · have e : mvcells (l ++ [p]) = mvcells l ++ p.cells := by simp [mvcells]
    rw [e, List.length_append]
    exact ho
  · rcases List.mem_append.1 hq with hq | hq
    · exact far q (h.low q hq) (h.rd q hq)
    · obtain rfl := List.mem_singleton.1 hq
      exact far q hl hc
  · rcases List.mem_append.1 hq with hq | hq
    · exact lo q (h.low q hq)
    · obtain rfl := List.mem_singleton.1 hq
      exact lo q hl

/-- A reader in block q. -/
structure PRd (W : World) (q : Nat) (hv : Value) (held : List UInt8) (err : Int) : Prop where
  blk : W.heap[q]? = some (.cells #[hv, .int .i64 err] 106 (0, 0))
  own : W.ownsRow (q + 1) 5 1 hv held.length (held.map vB)
section
variable {W W' : World} {q : Nat} {hv : Value} {held : List UInt8} {err : Int}
theorem PRd.lt (h : PRd W q hv held err) : q < W.heap.size := (Array.getElem?_eq_some_iff.1 h.blk).1
theorem PRd.c0 (h : PRd W q hv held err) : W.cell? ⟨q, 0, none⟩ = some hv := by simp [World.cell?, h.blk]
theorem PRd.c1 (h : PRd W q hv held err) : W.cell? ⟨q, 1, none⟩ = some (.int .i64 err) := by simp [World.cell?, h.blk]
theorem PRd.fz (h : PRd W q hv held err) (j : Nat) : W.frozen? ⟨q, j, none⟩ = false := by simp [World.frozen?, h.blk]
theorem PRd.later (h : PRd W q hv held err) (B : Below W.heap.size W W') : PRd W' q hv held err := ⟨(B.block _ h.lt).trans h.blk, own_below h.own B⟩
end

theorem newReader_any (w : World) : Calls Try.prog 27 #[] w fun e w' => e = .returned (.pointer (some ⟨w.heap.size, 0, none⟩)) ∧ PRd w' w.heap.size (.slice none 0 0) [] 0 ∧ Below w.heap.size w w' ∧ w'.heap.size = w.heap.size + 1 := by
  go_enter Try.func27, Try.ntmps27
  go_wp2_with fail
  go_ret
  exact ⟨rfl, ⟨World.alloc_heap_new w _, World.ownsRow_nil _ _ _ _⟩, (Below.refl _ w).alloc (Nat.le_refl _) _, World.size_alloc _ _⟩
theorem held_any (q : Nat) (hv : Value) (held : List UInt8) (err : Int) (w : World) (h : PRd w q hv held err) : Calls Try.prog 31 #[.pointer (some ⟨q, 0, none⟩)] w fun e w' => e = .returned (.int .i64 (held.length : Int)) ∧ w' = w := by
  have c0 := h.c0
  obtain ⟨ah, ch, rfl, _, _⟩ := (Rv.of_own h.own).opened
  go_enter Try.func31, Try.ntmps31
  go_wp2_with fail
  go_ret
  exact ⟨rfl, rfl⟩
end Go.Proofs.Ytadhghikanjkeaa
