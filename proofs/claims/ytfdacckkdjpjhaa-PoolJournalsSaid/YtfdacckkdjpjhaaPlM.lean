/- Package pool: Ask. -/
import Derived.Test.YtfdacckkdjpjhaaPlL
import Derived.Test.YtfdacckkdjpjhaaPmA
import Derived.Test.YtfdacckkdjpjhaaPlN
import Derived.Test.YtfdacckkdjpjhaaWid
import Derived.Test.YtfdacckkdjpjhaaHeld
namespace Go.Proofs.Ytfdacckkdjpjhaa
open Go.RowKit Go.Shelf

attribute [local go_sem] Oper.semAt_some

theorem Try.infoTy : (Try.prog.info? 112).map (fun i => (i.zero, i.size, i.bytes)) = some (some (.agg #[.int .i64 0, .int .i64 0]), 2, 16) := by kernel_rfl
theorem Try.elTy : Elem Try.prog 101 112 (.agg #[.int .i64 0, .int .i64 0]) 2 16 := ⟨Try.underlying101, Try.infoTy, rfl, by decide, by decide⟩
section
variable {p : Nat} {X R : Nat → Prop} {D : Pl}
def AskPost (w : World) (p : Nat) (X R : Nat → Prop) (o : Asked × Pl) (e : Ending) (w' : World) : Prop :=
  ∃ bv X', e = .returned (.tuple #[.agg #[.int .i64 o.1.id, bv], .int .i64 o.1.n, .bool o.1.is, .int .i64 o.1.err]) ∧ w'.ownsRow w.heap.size 5 1 bv o.1.body.length (o.1.body.map vB) ∧
    PAt w' p X' R o.2 ∧ DStep X X' w w' ∧ ∀ g, bv.ownBlock = some g → ¬ X' g
theorem allocs_old (l : List Obj) : ∀ (w : World) (k : Nat), k < w.heap.size → (l.foldl World.alloc w).heap[k]? = w.heap[k]? := by
  induction l with
  | nil => intro w k _; rfl
  | cons o l ih =>
    intro w k hk
    rw [List.foldl_cons, ih _ k (by rw [World.size_alloc]; omega), Below.heap_alloc _ _ _ hk]
theorem heap_allocs (l : List Obj) : ∀ (w : World) (i : Nat), i < l.length → (l.foldl World.alloc w).heap[w.heap.size + i]? = l[i]? := by
  induction l with
  | nil => intro w i h; cases h
  | cons o l ih =>
    intro w i h
    rw [List.foldl_cons]
    cases i with
    | zero => rw [Nat.add_zero, allocs_old l _ _ (by rw [World.size_alloc]; omega)]; exact World.alloc_heap_new w o
    | succ i =>
      have := ih (w.alloc o) i (by simpa using h)
      rw [World.size_alloc, show w.heap.size + 1 + i = w.heap.size + (i + 1) by omega] at this
      rw [this]
      rfl
/-- The boxes of Ask's parameters and results. -/
structure AskF (W : World) (s p : Nat) (x t a : Int) (u : Value) (n : Int) (is : Bool) (err : Int) : Prop where
  b0 : W.heap[s]? = some (.cells #[.pointer (some ⟨p, 0, none⟩)] 31)
  b1 : W.heap[s + 1]? = some (.cells #[.int .i64 x] 3)
  b2 : W.heap[s + 2]? = some (.cells #[.int .i64 t] 3)
  b3 : W.heap[s + 3]? = some (.cells #[.int .i64 a, u] 37)
  b4 : W.heap[s + 4]? = some (.cells #[.int .i64 n] 3)
  b5 : W.heap[s + 5]? = some (.cells #[.bool is] 4)
  b6 : W.heap[s + 6]? = some (.cells #[.int .i64 err] 24)
section
variable {W W' : World} {s : Nat} {x t a n err : Int} {u : Value} {is : Bool}
theorem AskF.kept (h : AskF W s p x t a u n is err) (hk : ∀ i, i < 7 → W'.heap[s + i]? = W.heap[s + i]?) : AskF W' s p x t a u n is err :=
  ⟨(hk 0 (by omega)).trans h.b0, (hk 1 (by omega)).trans h.b1, (hk 2 (by omega)).trans h.b2, (hk 3 (by omega)).trans h.b3, (hk 4 (by omega)).trans h.b4, (hk 5 (by omega)).trans h.b5, (hk 6 (by omega)).trans h.b6⟩
theorem AskF.lt (h : AskF W s p x t a u n is err) : s + 7 ≤ W.heap.size := (Array.getElem?_eq_some_iff.1 h.b6).1
theorem AskF.later (h : AskF W s p x t a u n is err) (B : Below W.heap.size W W') : AskF W' s p x t a u n is err :=
  h.kept (fun i hi => B.block _ (by have := h.lt; omega))
theorem AskF.cs (h : AskF W s p x t a u n is err) : W.cell? ⟨s, 0, none⟩ = some (.pointer (some ⟨p, 0, none⟩)) ∧ W.cell? ⟨s + 1, 0, none⟩ = some (.int .i64 x) ∧ W.cell? ⟨s + 2, 0, none⟩ = some (.int .i64 t) ∧ W.cell? ⟨s + 3, 0, none⟩ = some (.int .i64 a) ∧ W.cell? ⟨s + 3, 1, none⟩ = some u ∧
    W.cell? ⟨s + 4, 0, none⟩ = some (.int .i64 n) ∧ W.cell? ⟨s + 5, 0, none⟩ = some (.bool is) ∧ W.cell? ⟨s + 6, 0, none⟩ = some (.int .i64 err) := by
  simp [World.cell?, h.b0, h.b1, h.b2, h.b3, h.b4, h.b5, h.b6]
theorem AskF.fz (h : AskF W s p x t a u n is err) : W.frozen? ⟨s + 3, 0, none⟩ = false ∧ W.frozen? ⟨s + 3, 1, none⟩ = false ∧ W.frozen? ⟨s + 4, 0, none⟩ = false ∧ W.frozen? ⟨s + 5, 0, none⟩ = false ∧ W.frozen? ⟨s + 6, 0, none⟩ = false := by
  simp [World.frozen?, h.b3, h.b4, h.b5, h.b6]
theorem AskF.new (w : World) (p : Nat) (x t : Int) : AskF (((((((w.alloc (.cells #[.pointer (some ⟨p, 0, none⟩)] 31)).alloc (.cells #[.int .i64 x] 3)).alloc (.cells #[.int .i64 t] 3)).alloc (.cells #[.int .i64 0, .slice none 0 0] 37)).alloc (.cells #[.int .i64 0] 3)).alloc (.cells #[.bool false] 4)).alloc (.cells #[.int .i64 0] 24))
    w.heap.size p x t 0 (.slice none 0 0) 0 false 0 := by
  have key := heap_allocs [.cells #[.pointer (some ⟨p, 0, none⟩)] 31, .cells #[.int .i64 x] 3, .cells #[.int .i64 t] 3, .cells #[.int .i64 0, .slice none 0 0] 37, .cells #[.int .i64 0] 3, .cells #[.bool false] 4, .cells #[.int .i64 0] 24] w
  exact ⟨key 0 (by simp), key 1 (by simp), key 2 (by simp), key 3 (by simp), key 4 (by simp), key 5 (by simp), key 6 (by simp)⟩
/-- The results are set. -/
def askSet (W : World) (s : Nat) (a : Int) (u : Value) (n : Int) (is : Bool) (err : Int) : World := ((((W.setCell ⟨s + 3, 0, none⟩ (.int .i64 a)).setCell ⟨s + 3, 1, none⟩ u).setCell ⟨s + 4, 0, none⟩ (.int .i64 n)).setCell ⟨s + 5, 0, none⟩ (.bool is)).setCell ⟨s + 6, 0, none⟩ (.int .i64 err)
theorem AskF.set (h : AskF W s p x t a u n is err) (a' : Int) (u' : Value) (n' : Int) (is' : Bool) (err' : Int) : AskF (askSet W s a' u' n' is' err') s p x t a' u' n' is' err' := by
  have h0 := h.b0
  have h1 := h.b1
  have h2 := h.b2
  have h3 := h.b3
  have h4 := h.b4
  have h5 := h.b5
  have h6 := h.b6
  constructor <;> simp [askSet, World.setCell, Array.getElem?_modify, h0, h1, h2, h3, h4, h5, h6]
theorem AskF.results (h : AskF W s p x t a u n is err) {tm : Array Value} (t6 : tm[6]?.getD undef = .pointer (some ⟨s + 3, 0, none⟩)) (t7 : tm[7]?.getD undef = .pointer (some ⟨s + 4, 0, none⟩)) (t8 : tm[8]?.getD undef = .pointer (some ⟨s + 5, 0, none⟩)) (t9 : tm[9]?.getD undef = .pointer (some ⟨s + 6, 0, none⟩)) :
    (results Try.f15 tm).run Try.prog W = .ok (.tuple #[.agg #[.int .i64 a, u], .int .i64 n, .bool is, .int .i64 err]) W := by
  obtain ⟨_, _, _, c3, c4, c5, c6, c7⟩ := h.cs
  simp [Go.results, Try.f15, go_sem, t6, t7, t8, t9, c3, c4, c5, c6, c7]
theorem below_askSet {N : Nat} {w W : World} {s : Nat} (B : Below N w W) (h : N ≤ s) (a : Int) (u : Value) (n : Int) (is : Bool) (err : Int) : Below N w (askSet W s a u n is err) :=
  ((((B.setCell (p := ⟨s + 3, 0, none⟩) (by show N ≤ s + 3; omega) _).setCell (p := ⟨s + 3, 1, none⟩) (by show N ≤ s + 3; omega) _).setCell (p := ⟨s + 4, 0, none⟩) (by show N ≤ s + 4; omega) _).setCell (p := ⟨s + 5, 0, none⟩) (by show N ≤ s + 5; omega) _).setCell (p := ⟨s + 6, 0, none⟩) (by show N ≤ s + 6; omega) _
theorem ask_fin (h : AskF W s p x t a u n is err) {tm : Array Value} (t6 : tm[6]?.getD undef = .pointer (some ⟨s + 3, 0, none⟩)) (t7 : tm[7]?.getD undef = .pointer (some ⟨s + 4, 0, none⟩)) (t8 : tm[8]?.getD undef = .pointer (some ⟨s + 5, 0, none⟩)) (t9 : tm[9]?.getD undef = .pointer (some ⟨s + 6, 0, none⟩))
    {R : Ending → World → Prop} (hR : R (.returned (.tuple #[.agg #[.int .i64 a, u], .int .i64 n, .bool is, .int .i64 err])) W) : bodyPostM Fence.wide 5 Try.prog Try.f15 R .ret ⟨tm, []⟩ W :=
  ⟨_, h.results t6 t7 t8 t9, hR⟩
end
/-- Ask has refused. -/
theorem ask_no {mb : Nat} {wv : Value} {F : Int → Option Value} {ks : List Int} {Bk : Int → Nat} {TV BV AV : Int → Value} {w W : World} {err : Int} (h : PX w p mb wv F ks Bk TV BV AV X R D) (B : Below w.heap.size w W) : AskPost w p X R (⟨0, [], 0, false, err⟩, D) (.returned (.tuple #[.agg #[.int .i64 0, .slice none 0 0], .int .i64 0, .bool false, .int .i64 err])) W :=
  ⟨.slice none 0 0, X, rfl, World.ownsRow_nil .., ⟨_, _, _, _, _, _, _, _, h.later B⟩, DStep.ofBelow X B, fun g hg => by cases hg⟩
/-- A task is given out. -/
def Got (w : World) (N s p : Nat) (X R : Nat → Prop) (i : Nat) (t : Int) (O : Asked × Pl) (W : World) : Prop :=
  ∃ bv X', AskF W s p (i : Int) t O.1.id bv O.1.n O.1.is O.1.err ∧ PAt W p X' R O.2 ∧ W.ownsRow w.heap.size 5 1 bv O.1.body.length (O.1.body.map vB) ∧ DStep X X' w W ∧ (∀ g, bv.ownBlock = some g → ¬ X' g) ∧ (∀ b, X' b → b < N ∨ ∃ o : Obj, W.heap[b]? = some o ∧ o.isCells = true) ∧ (∀ b, R b → b < N) ∧ s + 7 ≤ N ∧ w.heap.size ≤ N
theorem Got.grown {w W W' : World} {N s p : Nat} {X R : Nat → Prop} {i : Nat} {t : Int} {O : Asked × Pl} {row : Option Nat} (h : Got w N s p X R i t O W) (hg : W.grownBy W' row) (hr : ∀ r, row = some r → N ≤ r ∧ ∃ o : Obj, W.heap[r]? = some o ∧ o.isCells = false) :
    Got w N s p X R i t O W' := by
  obtain ⟨bv, X', h1, ⟨mb, wv, F, ks, B, TV, BV, AV, h2⟩, h3, h4, h5, h6, h7, h8, h9⟩ := h
  have ke : ∀ b, b < W.heap.size → (b < N ∨ ∃ o : Obj, W.heap[b]? = some o ∧ o.isCells = true) → W'.heap[b]? = W.heap[b]? := fun b hb hc => hg.block b hb (fun q => by
    obtain ⟨h1, o, ho, hi⟩ := hr b q.symm
    rcases hc with hc | ⟨o', ho', hc⟩
    · omega
    · rw [ho] at ho'; cases ho'; rw [hi] at hc; cases hc)
  refine ⟨bv, X', h1.kept (fun j hj => ke _ (by have := h1.lt; omega) (.inl (by omega))), ⟨mb, wv, F, ks, B, TV, BV, AV, h2.kept hg.size (fun b hb => ke b (h2.xl b hb) (h6 b hb)) (fun b hb => ke b (h2.rl b hb) (.inl (h7 b hb)))⟩, own_stays h3 hg (fun r e => (hr r e).2), ⟨hg.os.trans h4.os, hg.tape.trans h4.tape, hg.output.trans h4.output, Nat.le_trans h4.size hg.size, fun b hb hx => (ke b (Nat.lt_of_lt_of_le hb h4.size) (.inl (by omega))).trans (h4.block b hb hx), h4.grow⟩, h5, fun b hb => ?_, h7, h8, h9⟩
  · rcases h6 b hb with q | ⟨o, ho, hc⟩
    · exact .inl q
    · exact .inr ⟨o, (ke b (h2.xl b hb) (.inr ⟨o, ho, hc⟩)).trans ho, hc⟩
theorem askSet_other (W : World) (s : Nat) (a : Int) (u : Value) (n : Int) (is : Bool) (err : Int) (b : Nat) (h : b < s + 3 ∨ s + 7 ≤ b) : (askSet W s a u n is err).heap[b]? = W.heap[b]? := by
  unfold askSet
  rw [Below.heap_setCell _ _ _ _ (show b ≠ s + 6 by omega), Below.heap_setCell _ _ _ _ (show b ≠ s + 5 by omega), Below.heap_setCell _ _ _ _ (show b ≠ s + 4 by omega), Below.heap_setCell _ _ _ _ (show b ≠ s + 3 by omega), Below.heap_setCell _ _ _ _ (show b ≠ s + 3 by omega)]
theorem askSet_size (W : World) (s : Nat) (a : Int) (u : Value) (n : Int) (is : Bool) (err : Int) : (askSet W s a u n is err).heap.size = W.heap.size := by unfold askSet; simp only [World.size_setCell]
theorem ask_leave {w W : World} {N s p : Nat} {X R : Nat → Prop} {i : Nat} {t : Int} {O : Asked × Pl} {E : Nat} (h : Got w N s p X R i t O W) (hN : N ≤ E) (hK : W.heap[E]? = some (.deferred (some []))) {tm : Array Value} (t6 : tm[6]?.getD undef = .pointer (some ⟨s + 3, 0, none⟩)) (t7 : tm[7]?.getD undef = .pointer (some ⟨s + 4, 0, none⟩)) (t8 : tm[8]?.getD undef = .pointer (some ⟨s + 5, 0, none⟩)) (t9 : tm[9]?.getD undef = .pointer (some ⟨s + 6, 0, none⟩)) :
    bodyPostM Fence.wide 5 Try.prog Try.f15 (AskPost w p X R O) .ret ⟨tm, [{ target := .collected E, args := #[] }]⟩ W := by
  have h2 := h.grown (grownBy_putObj' W E (.deferred none)) (fun r e => by cases e; exact ⟨hN, _, hK, rfl⟩)
  obtain ⟨bv, X', h1, hp, hb, hs, hx, _⟩ := h2
  exact ⟨by simp, .inl ⟨_, _, rfl, run_takeDeferred hK, _, h1.results t6 t7 t8 t9, bv, X', rfl, hb, hp, hs, hx⟩⟩
/-- After the try is appended. -/
structure R14 (w W wr : World) (s p mb : Nat) (wv : Value) (F : Int → Option Value) (ks : List Int) (Bk : Int → Nat) (TV BV AV : Int → Value) (X R : Nat → Prop) (D : Pl) (i : Nat) (t x : Int) (e : En) (tv : Value) : Prop where
  px : PX wr p mb wv F ks Bk (fun j => if j = x then tv else TV j) BV AV (fun b => X b ∨ tv.ownBlock = some b) R { ({ D with tick := t } : Pl) with ts := fun j => if j = x then some { e with tries := e.tries ++ [((i : Int), t)], lost := e.lost } else D.ts j }
  ask : AskF wr s p (i : Int) t 0 (.slice none 0 0) 0 false 0
  step : DStep X (fun b => X b ∨ tv.ownBlock = some b) w wr
  keep : KeepsOthers W wr
theorem pickIn_snoc (D : Pl) (t : Int) {l : List Int} {x : Int} {e : En} (h : D.pickIn t l = none) (he : D.ts x = some e) : D.pickIn t (l ++ [x]) = if (e.done || D.run e t) = true then none else some (x, e) := by
  unfold Pl.pickIn at h ⊢
  rw [List.findSome?_append, h]
  simp [he]
theorem pickIn_at (D : Pl) (t : Int) {l : List Int} {x : Int} {e : En} (hx : D.ids[l.length]? = some x) (hl : l = D.ids.take l.length) (h : D.pickIn t l = none) (he : D.ts x = some e) (hn : (e.done || D.run e t) = false) : D.pickIn t D.ids = some (x, e) := by
  have e1 : D.ids = (l ++ [x]) ++ D.ids.drop (l.length + 1) := by
    have h1 : D.ids.take (l.length + 1) = l ++ [x] := by rw [List.take_add_one, ← hl, hx]; rfl
    rw [← h1, List.take_append_drop]
  have h2 := pickIn_snoc D t h he
  rw [hn, if_neg (by simp)] at h2
  rw [e1]
  unfold Pl.pickIn at h2 ⊢
  rw [List.findSome?_append, h2]
  rfl
theorem busy_holds {w : World} {Bk : Int → Nat} {i : Nat} {v : Wk} {t : Int} (h : Calls Try.prog 51 #[.pointer (some ⟨p, 0, none⟩), .int .i64 (i : Int)] w (HoldsPost w D Bk i v)) :
    Calls Try.prog 51 #[.pointer (some ⟨p, 0, none⟩), .int .i64 (i : Int)] w fun e w' => Below w.heap.size w w' ∧ ∃ pv b, e = .returned (.tuple #[pv, .bool b]) ∧
      ((b = true ∧ ∃ en, D.ts v.task = some en ∧ pv = .pointer (some ⟨Bk v.task, 0, none⟩) ∧ D.busy v (i : Int) t = D.run en t) ∨ (b = false ∧ D.busy v (i : Int) t = false)) := by
  refine h.mono ?_
  rintro e w' ⟨B, ⟨hh, rfl⟩ | ⟨hh, en, y, he, hy, rfl⟩⟩
  · exact ⟨B, _, _, rfl, .inr ⟨rfl, by unfold Pl.busy; rw [hh]; rfl⟩⟩
  · refine ⟨B, _, _, rfl, ?_⟩
    have hb : D.busy v (i : Int) t = (y.1 == (i : Int) && D.run en t) := by unfold Pl.busy; rw [hh, he]; simp only [hy, Bool.true_and]
    cases hq : (y.1 == (i : Int))
    · exact .inr ⟨rfl, by rw [hb, hq]; rfl⟩
    · exact .inl ⟨rfl, en, he, rfl, by rw [hb, hq]; rfl⟩
theorem cell_set_ne {w : World} {a b : Nat} (h : b ≠ a) (i j : Nat) (u : Value) : (w.setCell ⟨a, i, none⟩ u).cell? ⟨b, j, none⟩ = w.cell? ⟨b, j, none⟩ := by
  unfold World.cell?
  rw [Below.heap_setCell _ _ _ _ h]
theorem cell_set_at {w : World} {a i j : Nat} (h : j ≠ i) (u : Value) : (w.setCell ⟨a, i, none⟩ u).cell? ⟨a, j, none⟩ = w.cell? ⟨a, j, none⟩ := by
  unfold World.cell? World.setCell
  simp only [Array.getElem?_modify, if_true]
  cases w.heap[a]? with
  | none => rfl
  | some o =>
    cases o <;> simp [Ne.symm h]
/-- After the worker has its task. -/
structure R17 (w W wr : World) (s p mb : Nat) (wv : Value) (F : Int → Option Value) (ks : List Int) (Bk : Int → Nat) (TV BV AV : Int → Value) (X' X R : Nat → Prop) (D : Pl) (i : Nat) (t : Int) : Prop where
  px : PX wr p mb wv F ks Bk TV BV AV X' R D
  ask : AskF wr s p (i : Int) t 0 (.slice none 0 0) 0 false 0
  step : DStep X X' w wr
  keep : KeepsOthers W wr
theorem ask17 {w W w15 w17 : World} {s p mb g n c i : Nat} {wv : Value} {F : Int → Option Value} {ks : List Int} {Bk : Int → Nat} {TV BV AV : Int → Value} {X' X R : Nat → Prop} {D D15 D17 : Pl} {v : Wk} {t x : Int} {e : En} (hw : wv = .slice (some ⟨g, 0, none⟩) n c) (hv : D.ws[i]? = some v)
    (P : PX w15 p mb wv F ks Bk TV BV AV X' R D15) (A : AskF w15 s p (i : Int) t 0 (.slice none 0 0) 0 false 0) (S : DStep X X' w w15) (K : KeepsOthers W w15)
    (h15 : D15 = { ({ D with tick := t } : Pl) with ts := fun j => if j = x then some { e with tries := e.tries ++ [((i : Int), t)], lost := false } else D.ts j }) (h17 : D17 = ({ D with tick := t } : Pl).give i v t x e)
    (hh : w17.heap = ((w15.setCell ⟨g, i * 3 + 1, none⟩ (.bool true)).setCell ⟨g, i * 3 + 2, none⟩ (.int .i64 x)).heap) (ho : w17.os = w15.os ∧ w17.tape = w15.tape ∧ w17.output = w15.output) (hsg : g < s) : R17 w W w17 s p mb wv F ks Bk TV BV AV X' X R D17 i t := by
  have hv15 : D15.ws[i]? = some v := by rw [h15]; exact hv
  have hx15 : D15.ts x = some { e with tries := e.tries ++ [((i : Int), t)], lost := false } := by rw [h15]; exact if_pos rfl
  have G := P.given hw hv15 hx15 (by simp)
  have hXg : X' g := P.xw g (by rw [hw]; rfl)
  have e1 : ({ D15 with ws := D15.ws.set i ⟨v.dead, true, x⟩ } : Pl) = D17 := by rw [h15, h17]; rfl
  rw [e1] at G
  have hb : ∀ b, b ≠ g → w17.heap[b]? = w15.heap[b]? := fun b hb => by rw [hh, Below.heap_setCell _ _ _ _ hb, Below.heap_setCell _ _ _ _ hb]
  have hz : w17.heap.size = w15.heap.size := by rw [hh, World.size_setCell, World.size_setCell]
  refine ⟨G.kept (by rw [hh]; exact Nat.le_refl _) (fun b _ => by rw [hh]) (fun b _ => by rw [hh]), A.kept (fun j _ => hb _ (by omega)), ⟨ho.1.trans S.os, ho.2.1.trans S.tape, ho.2.2.trans S.output, by rw [hz]; exact S.size, fun b hbl hX => ?_, S.grow⟩, ?_⟩
  · refine (hb b (fun q => ?_)).trans (S.block b hbl hX)
    rw [q] at hX hbl
    rcases S.grow g hXg with h | h
    · exact hX h
    · omega
  · exact K.trans ⟨by rw [hz]; exact Nat.le_refl _, fun k o hk hn => (((KeepsOthers.setCell w15 ⟨g, i * 3 + 1, none⟩ (.bool true)).trans (KeepsOthers.setCell _ ⟨g, i * 3 + 2, none⟩ (.int .i64 x))).same k o hk hn |> fun q => by rw [hh]; exact q)⟩
theorem ask_got {w W w17 w18 : World} {N s p mb i : Nat} {wv tv v : Value} {F : Int → Option Value} {ks : List Int} {Bk : Int → Nat} {TV BV AV : Int → Value} {X R : Nat → Prop} {D17 : Pl} {t x : Int} {e : En} {m : Nat}
    (H : R17 w W w17 s p mb wv F ks Bk (fun j => if j = x then tv else TV j) BV AV (fun b => X b ∨ tv.ownBlock = some b) X R D17 i t) (hx : ∃ f, D17.ts x = some f) (B : Below w17.heap.size w17 w18) (O : w18.ownsRow w17.heap.size 5 1 v e.body.length (e.body.map vB)) (hm : e.tries.length = m)
    (hXR : ∀ b, X b ∨ R b → b < w.heap.size) (hs : w.heap.size = s) (hN : s + 7 ≤ N) : Got w N s p X R i t (⟨x, e.body, (e.tries.length : Int), true, 0⟩, D17) (askSet w18 s x v (m : Int) true 0) := by
  have hz := B.size
  have hl := H.ask.lt
  obtain ⟨f, hf⟩ := hx
  have ho := fun b (hb : b < s + 3 ∨ s + 7 ≤ b) => askSet_other w18 s x v (m : Int) true 0 b hb
  have hz2 := askSet_size w18 s x v (m : Int) true 0
  have htr := (H.px.tr x f hf).1
  rw [if_pos rfl] at htr
  have hXlt : ∀ b, X b → b < s := fun b hb => by have := hXR b (.inl hb); omega
  have htv : ∀ b, tv.ownBlock = some b → b < s + 3 ∨ s + 7 ≤ b := fun b hb => by
    rcases H.step.grow b (.inr hb) with h | h
    · have := hXlt b h; omega
    · refine .inr ?_
      refine Nat.le_of_not_lt fun hlt => ?_
      have hk := H.px.kt hf (g := b) (by rw [if_pos rfl]; exact hb)
      have hbs : s ≤ b := by omega
      obtain ⟨q, rfl⟩ : ∃ q, b = s + q := ⟨b - s, by omega⟩
      unfold kindAt at hk
      have A := H.ask
      have h7 : q < 7 := by omega
      have : q = 0 ∨ q = 1 ∨ q = 2 ∨ q = 3 ∨ q = 4 ∨ q = 5 ∨ q = 6 := by omega
      rcases this with rfl | rfl | rfl | rfl | rfl | rfl | rfl
      · rw [show s + 0 = s from rfl, A.b0] at hk; cases hk
      · rw [A.b1] at hk; cases hk
      · rw [A.b2] at hk; cases hk
      · rw [A.b3] at hk; cases hk
      · rw [A.b4] at hk; cases hk
      · rw [A.b5] at hk; cases hk
      · rw [A.b6] at hk; cases hk
  have hX1 : ∀ b, (X b ∨ tv.ownBlock = some b) → b < s + 3 ∨ s + 7 ≤ b := fun b hb => hb.elim (fun h => by have := hXlt b h; omega) (htv b)
  have hR1 : ∀ b, R b → b < s := fun b hb => by have := hXR b (.inr hb); omega
  have P := (H.px.later B).kept (w' := askSet w18 s x v (m : Int) true 0) (by rw [hz2]; exact Nat.le_refl _) (fun b hb => ho b (hX1 b hb)) (fun b hb => ho b (by have := hR1 b hb; omega))
  refine ⟨v, _, by rw [hm]; exact (H.ask.later B).set x v (m : Int) true 0, ⟨_, _, _, _, _, _, _, _, P⟩, own_same (own_base O (by omega)) (fun b hb => ho b (by have := (O.lt b hb).1; omega)), ?_, fun g hg hx => ?_, fun b hb => ?_, fun b hb => by have := hR1 b hb; omega, hN, by omega⟩
  · exact ((((((H.step.trans (DStep.ofBelow _ B)).set (b := s + 3) (.inr (by omega)) _).set (b := s + 3) (.inr (by omega)) _).set (b := s + 4) (.inr (by omega)) _).set (b := s + 5) (.inr (by omega)) _).set (b := s + 6) (.inr (by omega)) _)
  · have h1 := (O.lt g hg).1
    have h2 := H.px.xl g hx
    omega
  · rcases hb with h | h
    · have := hXlt b h
      exact .inl (by omega)
    · have htr2 := (P.tr x f hf).1
      rw [if_pos rfl] at htr2
      obtain ⟨_, ⟨rfl, _⟩ | ⟨g1, cap, cur, rfl, _, hk, _⟩⟩ := htr2
      · cases h
      · cases h
        exact .inr ⟨_, hk, rfl⟩
theorem ask15 {w W wr : World} {s p mb : Nat} {wv : Value} {F : Int → Option Value} {ks : List Int} {Bk : Int → Nat} {TV BV AV : Int → Value} {X R : Nat → Prop} {D D' : Pl} {i : Nat} {t x : Int} {e : En} {tv : Value} {bk : Nat} (h : R14 w W wr s p mb wv F ks Bk TV BV AV X R D i t x e tv) (_he : D.ts x = some e) (hb : Bk x = bk)
    (hD : D' = { ({ D with tick := t } : Pl) with ts := fun j => if j = x then some { e with tries := e.tries ++ [((i : Int), t)], lost := false } else D.ts j }) : PX (wr.setCell ⟨bk, 2, none⟩ (.bool false)) p mb wv F ks Bk (fun j => if j = x then tv else TV j) BV AV (fun b => X b ∨ tv.ownBlock = some b) R D' := by
  have hx : ({ ({ D with tick := t } : Pl) with ts := fun j => if j = x then some { e with tries := e.tries ++ [((i : Int), t)], lost := e.lost } else D.ts j } : Pl).ts x = some { e with tries := e.tries ++ [((i : Int), t)], lost := e.lost } := if_pos rfl
  have hblk := (h.px.en x _ hx).2.1
  have h2 := h.px.entry (w' := wr.setCell ⟨bk, 2, none⟩ (.bool false)) (e' := { e with tries := e.tries ++ [((i : Int), t)], lost := false }) hx rfl rfl rfl (by rw [hb] at hblk ⊢; unfold enO at hblk ⊢; simp [World.setCell, Array.getElem?_modify, hblk]) (World.size_setCell _ _ _) (fun b hbn => Below.heap_setCell _ _ _ _ (by rw [hb] at hbn; exact hbn)) (by have hb2 := h.px.ok.bod x _ hx; have q := ok_entry (e' := { e with tries := e.tries ++ [((i : Int), t)], lost := false }) h.px.ok hx rfl hb2; exact q)
  have e1 : (fun j => if j = x then some ({ e with tries := e.tries ++ [((i : Int), t)], lost := false } : En) else if j = x then some { e with tries := e.tries ++ [((i : Int), t)], lost := e.lost } else D.ts j) = fun j => if j = x then some { e with tries := e.tries ++ [((i : Int), t)], lost := false } else D.ts j := by
    funext j
    split <;> rfl
  rw [hD]
  rw [← e1]
  exact h2
set_option maxRecDepth 100000 in
set_option maxHeartbeats 4000000 in
theorem ask_any (x t : Int) (w : World) (h : PAt w p X R D) (htl : ∀ k e, D.ts k = some e → e.tries.length ≤ 1000000000) :
    Calls Try.prog 15 #[.pointer (some ⟨p, 0, none⟩), .int .i64 x, .int .i64 t] w (AskPost w p X R (D.ask x t)) := by
  obtain ⟨mb, wv, F, ks, Bk, TV, BV, AV, h⟩ := h
  refine (callsIn_wide (n := 5)).1 ?_
  refine callsIn_of_wp_marks Try.func15 rfl trivial ?_ rfl
  simp only [Try.ntmps15, List.size_toArray, List.length_cons, List.length_nil, Nat.reduceAdd, Nat.reduceSub, Array.replicate_succ, Array.replicate_zero, List.push_toArray, List.append_toArray, List.nil_append, List.cons_append]
  have HTL := Lib.hid htl
  clear htl
  have HH := Lib.hid h
  have HXR := Lib.hid (show ∀ b, X b ∨ R b → b < w.heap.size from fun b hb => hb.elim (h.xl b) (h.rl b))
  have hpl := h.lt
  obtain ⟨O, hO⟩ : ∃ O, D.ask x t = O := ⟨_, rfl⟩
  rw [hO]
  unfold Pl.ask at hO
  have HO := Lib.hid hO
  clear h hO
  gi_upto_region 1 with fail
  have A0 := AskF.new w p x t
  have B0 : Below w.heap.size w (((((((w.alloc (.cells #[.pointer (some ⟨p, 0, none⟩)] 31)).alloc (.cells #[.int .i64 x] 3)).alloc (.cells #[.int .i64 t] 3)).alloc (.cells #[.int .i64 0, .slice none 0 0] 37)).alloc (.cells #[.int .i64 0] 3)).alloc (.cells #[.bool false] 4)).alloc (.cells #[.int .i64 0] 24)) :=
    (((((((Below.refl _ w).alloc (Nat.le_refl _) _).alloc (by simp) _).alloc (by simp; omega) _).alloc (by simp; omega) _).alloc (by simp; omega) _).alloc (by simp; omega) _).alloc (by simp; omega) _
  have hs0 : (((((((w.alloc (.cells #[.pointer (some ⟨p, 0, none⟩)] 31)).alloc (.cells #[.int .i64 x] 3)).alloc (.cells #[.int .i64 t] 3)).alloc (.cells #[.int .i64 0, .slice none 0 0] 37)).alloc (.cells #[.int .i64 0] 3)).alloc (.cells #[.bool false] 4)).alloc (.cells #[.int .i64 0] 24)).heap.size = w.heap.size + 7 := by simp
  generalize (((((((w.alloc (.cells #[.pointer (some ⟨p, 0, none⟩)] 31)).alloc (.cells #[.int .i64 x] 3)).alloc (.cells #[.int .i64 t] 3)).alloc (.cells #[.int .i64 0, .slice none 0 0] 37)).alloc (.cells #[.int .i64 0] 3)).alloc (.cells #[.bool false] 4)).alloc (.cells #[.int .i64 0] 24)) = W0 at *
  simp only [Nat.add_assoc, Nat.reduceAdd]
  obtain ⟨s, hs⟩ : ∃ s, w.heap.size = s := ⟨_, rfl⟩
  rw [hs] at A0 hs0 hpl ⊢
  have hP0 := HH.out.later B0
  obtain ⟨k0, k1, k2, k3, k3b, k4, k5, k6⟩ := A0.cs
  obtain ⟨z3, z3b, z4, z5, z6⟩ := A0.fz
  have hwr := wrong_any x t W0 hP0
  obtain ⟨r, hr⟩ : ∃ r, D.wrong x t = r := ⟨_, rfl⟩
  rw [hr] at hwr
  have HWR := Lib.hid hwr
  have HA0 := Lib.hid A0
  have hO := HO.out
  rw [hr] at hO
  have HO1 := Lib.hid hO
  have HP0 := Lib.hid hP0
  clear hwr hP0 HO hO A0
  by_cases hr0 : r = 0
  · subst hr0
    have hO := HO1.out
    rw [if_neg (by simp)] at hO
    obtain ⟨hn0, ht0, ht1, ht2⟩ := wrong_ok hr
    obtain ⟨i, v, rfl, hi, hv⟩ := yes_worker hn0
    rw [Int.toNat_natCast, hv] at hO
    simp only at hO
    obtain ⟨g, c, hw, hc, d0, _, _⟩ := HP0.out.wk hv
    have c2 := HP0.out.c2
    rw [hw] at c2
    obtain ⟨n, hn⟩ : ∃ n, D.ws.length = n := ⟨_, rfl⟩
    rw [hn] at hi hc c2
    have hi2 : (i : Int) < (n : Int) := by omega
    have HV := Lib.hid hv
    have HW := Lib.hid hw
    have HT := Lib.hid (And.intro ht2 ht1)
    have HN := Lib.hid hn
    have HHO := Lib.hid (fun W h => holds_any (p := p) (mb := mb) (wv := wv) (F := F) (ks := ks) (B := Bk) (TV := TV) (BV := BV) (AV := AV) (X := X) (R := R) (D := D) i v hv W h)
    clear hv hw hn hr ht0 ht1 ht2 hn0
    cases hd : v.dead
    · rw [hd] at d0 hO
      rw [if_neg (by simp)] at hO
      have HO2 := Lib.hid hO
      clear hO HO1
      gi_upto_region 4 with (refine ⟨trivial, ?_⟩; gi_at_call 50; refine (callsIn_wide.2 HWR.out).mono ?_; rintro e w1 ⟨rfl, rfl⟩)
      gi_quiet (fail)
      have B4 : Below w.heap.size w (w1.drewN nq) := belD B0 nq
      have A4 : AskF (w1.drewN nq) s p (i : Int) t 0 (.slice none 0 0) 0 false 0 := HA0.out.kept (fun _ _ => rfl)
      have P4 := HH.out.later B4
      have k0 : (w1.drewN nq).cell? ⟨s, 0, none⟩ = _ := k0
      have k1 : (w1.drewN nq).cell? ⟨s + 1, 0, none⟩ = _ := k1
      have k2 : (w1.drewN nq).cell? ⟨s + 2, 0, none⟩ = _ := k2
      have hs4 : (w1.drewN nq).heap.size = s + 7 := hs0
      generalize w1.drewN nq = w4 at *
      have HHC := Lib.hid (HHO.out w4 P4)
      have HP4 := Lib.hid P4
      have HA4 := Lib.hid A4
      clear P4 A4
      have HHC2 := Lib.hid (busy_holds (t := t) HHC.out)
      gi_upto_region 7 with (refine ⟨trivial, ?_⟩; gi_at_call 51; refine (callsIn_wide.2 HHC2.out).mono ?_; rintro e w5 ⟨B5, pv, b, rfl, hbz⟩)
      have HBZ := Lib.hid hbz
      have HB5 := Lib.hid B5
      have A5 := HA4.out.later B5
      obtain ⟨k0, k1, k2, _⟩ := A5.cs
      have HA5 := Lib.hid A5
      have HP5 := Lib.hid (HP4.out.later B5)
      have hs5 := B5.size
      clear hbz A5 HHC HHC2 HHO HWR
      gi_cut [44] from 32 (fun u wr => u = .bool (D.busy v (i : Int) t) ∧ Below w5.heap.size w5 wr)
      case first =>
        cases b
        · have hbz : D.busy v (i : Int) t = false := by rcases HBZ.out with ⟨h, _⟩ | ⟨_, h⟩; cases h; exact h
          gi_wp2
          refine ⟨trivial, ?_⟩
          gi_wp2
          gi_meet
          exact ⟨by rw [hbz], Below.refl _ _⟩
        · obtain ⟨en, hen, rfl, hbz⟩ : ∃ en, D.ts v.task = some en ∧ pv = .pointer (some ⟨Bk v.task, 0, none⟩) ∧ D.busy v (i : Int) t = D.run en t := by rcases HBZ.out with ⟨_, h⟩ | ⟨h, _⟩; exact h; cases h
          have HR := Lib.hid (running_any v.task en t w5 HP5.out hen)
          clear hen
          gi_wp2_with (refine ⟨trivial, ?_⟩; gi_at_call 52; refine (callsIn_wide.2 HR.out).mono ?_; rintro e w6 ⟨rfl, nq, rfl⟩)
          gi_meet
          exact ⟨by rw [hbz], belD (Below.refl _ _) nq⟩
      case rest =>
      rename World => w6
      obtain ⟨rfl, B6⟩ := hcut
      cases hbz : D.busy v (i : Int) t
      · have hO := HO2.out
        rw [hbz, if_neg (by simp)] at hO
        have HO3 := Lib.hid hO
        have B07 : Below w.heap.size w w6 := bel (bel B4 HB5.out) B6
        have A6 := HA5.out.later B6
        have P6 := HP5.out.later B6
        obtain ⟨k0, k1, k2, k3, k3b, k4, k5, k6⟩ := A6.cs
        have c1 := P6.c1
        have fz := P6.fz 1
        have hs6 := B6.size
        have hp6 := P6.lt
        have HA6 := Lib.hid A6
        have HP6 := Lib.hid P6
        clear A6 P6 hO HO2 k3 k3b k4 k5 k6
        gi_upto_region 10 with fail
        have S7 := (DStep.ofBelow X B07).set (b := p) (i := 1) (.inl HP6.out.xp) (.int .i64 t)
        have P7 := HP6.out.tick t HT.out
        have A7 : AskF (w6.setCell ⟨p, 1, none⟩ (.int .i64 t)) s p (i : Int) t 0 (.slice none 0 0) 0 false 0 := HA6.out.kept (fun j _ => Below.heap_setCell _ _ _ _ (by show s + j ≠ p; omega))
        have hs7 : (w6.setCell ⟨p, 1, none⟩ (.int .i64 t)).heap.size = w6.heap.size := World.size_setCell _ _ _
        have hl7 := HA6.out.lt
        generalize w6.setCell ⟨p, 1, none⟩ (.int .i64 t) = w7 at *
        obtain ⟨N, hN⟩ : ∃ N, w7.heap.size = N := ⟨_, rfl⟩
        have hNs : s + 7 ≤ N := by omega
        clear hs7 hs6 hs5 hl7
        obtain ⟨k0, k1, k2, _⟩ := A7.cs
        have HA7 := Lib.hid A7
        have HP7 := Lib.hid P7
        have HS7 := Lib.hid S7
        clear A7 P7 S7 B6 B07 HA6 HP6 HA5 HP5 HB5 HBZ B4 HP4 HA4 HP0 HA0 c1 fz B0 B5 HH d0 c2
        gi_upto_region 19 with (refine ⟨trivial, ?_⟩; gi_at_call 53; refine (each_in p _ _).mono ?_; rintro e w' ⟨rfl, rfl⟩)
        have B8 := (Below.refl w7.heap.size w7).alloc (Nat.le_refl _) (.cells #[.pointer (some ⟨p, 0, none⟩)] 31)
        have b8 := Boxed.new w7 31 (.pointer (some ⟨p, 0, none⟩))
        have hs8 : (w7.alloc (.cells #[.pointer (some ⟨p, 0, none⟩)] 31)).heap.size = w7.heap.size + 1 := World.size_alloc _ _
        generalize w7.alloc (.cells #[.pointer (some ⟨p, 0, none⟩)] 31) = w8 at *
        rw [hN] at b8 hs8
        have A8 := HA7.out.later B8
        have P8 := HP7.out.later B8
        have S8 := HS7.out.trans (DStep.ofBelow X B8)
        have hl8 := A8.lt
        have hown0 : ownAt s w8 = none := by unfold ownAt; rw [A8.cs.1]; rfl
        have HA8 := Lib.hid A8
        have HP8 := Lib.hid P8
        have HS8 := Lib.hid S8
        have HB8 := Lib.hid b8.cell
        clear A8 P8 S8 HS7 HP7 HA7 B8 k0 k1 k2
        refine' wpIn_rangeFunc_E rfl (by omega) (gf := 76) (lb := #[.pointer (some ⟨N, 0, none⟩)]) rfl trivial (enters_of Try.func76 (by kernel_rfl) rfl)
          (each_stops (5 - 1) (by omega) N s (N + 1) (fun _ => False) w8 HP8.out HB8.out (fun h => h) (by omega) (by omega) (by omega)
            (fun b hb => ⟨fun h => h, by have := hb.elim (HP8.out.xl b) (HP8.out.rl b); omega⟩) (fun b hb => hb.elim) hown0)
          (fun h k => h.trans k) (fun W l o o' hl ho hc _ => KeepO.put (by omega) (by omega) ho hc) (Below.refl _ _) (fun _ => rfl)
          (fun pre W => D.pickIn t pre = none ∧ Below w8.heap.size w8 W)
          (fun c pre W => c = .ret ∧ ∃ k e, D.pickIn t D.ids = some (k, e) ∧ Got w w8.heap.size s p X R i t (⟨k, e.body, e.tries.length, true, 0⟩, ({ D with tick := t } : Pl).give i v t k e) W)
          (fun pre W W' row ⟨h1, h2⟩ hg hr => ⟨h1, ownFrom_below (β := Unit) (Nat.le_refl _) (Nat.le_refl _) () W W' row h2 hg hr⟩)
          (fun c pre W W' row ⟨h1, k, e, h2, h3⟩ hg hr => ⟨h1, k, e, h2, h3.grown hg hr⟩) (fun pre x W W' row h hg hr => h)
          ⟨rfl, Below.refl _ _⟩ _ ?assign ?body ?done ?stop
        case assign =>
          intro l x W K hK
          gi_wp2
          exact hK
        case body =>
          rintro l pre x W ⟨hpk, hB⟩ ⟨hx, hpre⟩
          have P9 := HP8.out.later hB
          obtain ⟨e, he⟩ := (P9.ok.mem x).1 (List.mem_of_getElem? hx)
          have he : D.ts x = some e := he
          have e3 := P9.e he 3 _ rfl
          have A9 := HA8.out.later hB
          obtain ⟨k0, k1, k2, _⟩ := A9.cs
          have HPK := Lib.hid (pickIn_snoc D t hpk he)
          have HPI := Lib.hid (pickIn_at D t hx hpre hpk he)
          have HR := Lib.hid (running_any x e t W P9 he)
          have HP9 := Lib.hid P9
          have HA9 := Lib.hid A9
          have HE := Lib.hid he
          have HB9 := Lib.hid hB
          have hz9 := hB.size
          clear P9 A9 he hx hpre hpk hB
          obtain ⟨u, hu⟩ : ∃ u, (e.done || D.run e t) = u := ⟨_, rfl⟩
          have HU := Lib.hid hu
          clear hu
          gi_upto_region 13 with fail
          gi_cut [63] from 54 (fun q wr => q = .bool u ∧ ∃ n, wr = W.drewN n)
          case first =>
            cases hd : e.done
            · rw [hd] at e3
              gi_wp2_with (refine ⟨trivial, ?_⟩; gi_at_call 52; refine (callsIn_wide.2 HR.out).mono ?_; rintro e w6 ⟨rfl, nq, rfl⟩)
              gi_meet
              refine ⟨?_, nq, rfl⟩
              rw [← HU.out, hd]
              rfl
            · rw [hd] at e3
              gi_wp2
              refine ⟨trivial, ?_⟩
              gi_wp2
              gi_meet
              refine ⟨?_, 0, rfl⟩
              rw [← HU.out, hd]
              rfl
          case rest =>
          rename World => w10
          obtain ⟨rfl, nq, rfl⟩ := hcut
          cases u
          · have hpi := HPI.out HU.out
            have B10 := belD (Below.refl W.heap.size W) nq
            have P10 := HP9.out.later B10
            have A10 := HA9.out.later B10
            have B10 := bel HB9.out B10
            have hz10 : (W.drewN nq).heap.size = W.heap.size := rfl
            have HW10 := Lib.hid (show ∀ k : Nat, (W.drewN nq).heap[k]? = W.heap[k]? from fun _ => rfl)
            generalize W.drewN nq = w10 at *
            have he : ({ D with tick := t } : Pl).ts x = some e := HE.out
            obtain ⟨_, k1, k2, _⟩ := A10.cs
            have e1 := P10.e he 1 _ rfl
            have f1 := P10.efz he 1
            have O1 := (P10.tr x e he).1
            obtain ⟨ta, tc, hT⟩ := own_isSlice O1
            obtain ⟨bk, hbk⟩ : ∃ b, Bk x = b := ⟨_, rfl⟩
            obtain ⟨m, hm⟩ : ∃ m, e.tries.length = m := ⟨_, rfl⟩
            rw [hT, hm] at e1 O1
            rw [hbk] at e1 f1 ⊢
            have HBK := Lib.hid hbk
            have HTV := Lib.hid hT
            have HM := Lib.hid hm
            have HP10 := Lib.hid P10
            have HA10 := Lib.hid A10
            have HB10 := Lib.hid B10
            have HPI2 := Lib.hid hpi
            have k1d : w10.drew.cell? ⟨s + 1, 0, none⟩ = some (.int .i64 (i : Int)) := k1
            have k2d : w10.drew.cell? ⟨s + 2, 0, none⟩ = some (.int .i64 t) := k2
            have e1d : w10.drew.cell? ⟨bk, 1, none⟩ = some (.slice ta m tc) := e1
            have s0 := And.intro k1d k2d
            clear P10 A10 B10 hT hm hbk hpi HPI HR HP9 HA9 HB9 HPK he
            gi_upto_region 14 with fail
            gi_cut [] from 64 (fun wr => ∃ a13 q13, R14 w W wr s p mb wv F ks Bk TV BV AV X R D i t x e (.slice a13 (m + 1) q13))
            case first =>
              refine wpIn_region_of_any (by kernel_rfl) (noRows_of (by decide)) (fun ⟨_, _, h⟩ => h) ?_
              refine wpAny_of_held (S := fun W => W.cell? ⟨s + 1, 0, none⟩ = some (.int .i64 (i : Int)) ∧ W.cell? ⟨s + 2, 0, none⟩ = some (.int .i64 t)) _ _ _ _ ?_
              change wpAnyH _ _ _ _ _ _ _ _ w10.drew
              refine wpAnyH_do 0 64 rfl rfl (by kernel_rfl) (by kernel_rfl) (by kernel_rfl) (fun _ _ _ _ _ h => h) (by kernel_rfl) (fun W hS => by (obtain ⟨s2, s3⟩ := hS); go_simp; try with_reducible rfl) s0 ?_
              simp only [List.setIfInBounds_toArray, List.set_cons_succ, List.set_cons_zero]
              refine wpAnyH_do 1 65 rfl rfl (by kernel_rfl) (by kernel_rfl) (by kernel_rfl) (fun _ _ _ _ _ h => h) (by kernel_rfl) (fun W hS => by (obtain ⟨s2, s3⟩ := hS); go_simp; try with_reducible rfl) s0 ?_
              simp only [List.setIfInBounds_toArray, List.set_cons_succ, List.set_cons_zero]
              refine wpAnyH_do 2 66 rfl rfl (by kernel_rfl) (by kernel_rfl) (by kernel_rfl) (fun _ _ _ _ _ h => h) (by kernel_rfl) (fun W hS => by (obtain ⟨s2, s3⟩ := hS); go_simp; try with_reducible rfl) s0 ?_
              simp only [List.setIfInBounds_toArray, List.set_cons_succ, List.set_cons_zero]
              refine wpAnyH_do 3 67 rfl rfl (by kernel_rfl) (by kernel_rfl) (by kernel_rfl) (fun _ _ _ _ _ h => h) (by kernel_rfl) (fun W hS => by (obtain ⟨s2, s3⟩ := hS); go_simp; try with_reducible rfl) s0 ?_
              simp only [List.setIfInBounds_toArray, List.set_cons_succ, List.set_cons_zero]
              refine wpAnyH_do 5 69 rfl rfl (by kernel_rfl) (by kernel_rfl) (by kernel_rfl) (fun _ _ _ _ _ h => h) (by kernel_rfl) (fun W hS => by (obtain ⟨s2, s3⟩ := hS); go_simp; try with_reducible rfl) s0 ?_
              simp only [List.setIfInBounds_toArray, List.set_cons_succ, List.set_cons_zero]
              refine wpAnyH_do 6 70 rfl rfl (by kernel_rfl) (by kernel_rfl) (by kernel_rfl) (fun _ _ _ _ _ h => h) (by kernel_rfl) (fun W hS => by (obtain ⟨s2, s3⟩ := hS); go_simp; try with_reducible rfl) s0 ?_
              simp only [List.setIfInBounds_toArray, List.set_cons_succ, List.set_cons_zero]
              refine wpAnyH_do 7 71 rfl rfl (by kernel_rfl) (by kernel_rfl) (by kernel_rfl) (fun _ _ _ _ _ h => h) (by kernel_rfl) (fun W hS => by (obtain ⟨s2, s3⟩ := hS); go_simp; try with_reducible rfl) s0 ?_
              simp only [List.setIfInBounds_toArray, List.set_cons_succ, List.set_cons_zero]
              have hs10 : w10.drew.heap.size = w10.heap.size := rfl
              have O1d : w10.drew.ownsRow 0 112 2 (.slice ta m tc) m (tcells e.tries) := O1
              have HS10 := Lib.hid (show Below w10.heap.size w10 w10.drew from (Below.refl _ _).drew)
              generalize w10.drew = w11 at *
              have HS11 := Lib.hid hs10
              have HZ10 := Lib.hid hz10
              clear hs10 hz10
              have hbkl : bk < w11.heap.size := World.block_lt_of_cell? _ _ e1d
              have B12 := (Below.refl w11.heap.size w11).alloc (Nat.le_refl _) (.cells #[.int .i64 (i : Int), .int .i64 t] 112)
              have cc : ∀ b j u, w11.cell? ⟨b, j, none⟩ = some u → (w11.alloc (.cells #[.int .i64 (i : Int), .int .i64 t] 112)).cell? ⟨b, j, none⟩ = some u := fun b j u hc => (B12.cell (p := ⟨b, j, none⟩) (World.block_lt_of_cell? _ _ hc)).trans hc
              have s1 := And.intro (cc _ _ _ k1d) (cc _ _ _ k2d)
              have e1a := cc _ _ _ e1d
              refine wpAnyH_two 4 8 rfl rfl (by kernel_rfl) (by kernel_rfl) (by kernel_rfl) (fun K hK => ?_) (fun K hK => ?_)
              go_simp
              refine hK _ _ s0 ?_
              clear hK
              refine wpAnyH_one 8 rfl (by kernel_rfl) (by kernel_rfl) (fun K hK => ?_)
              go_simp
              refine hK _ _ s1 ?_
              clear hK
              rotate_left
              go_simp
              refine hK _ _ s1 ?_
              clear hK
              refine wpAnyH_one 4 rfl (by kernel_rfl) (by kernel_rfl) (fun K hK => ?_)
              go_simp
              refine hK _ _ s1 ?_
              clear hK
              all_goals
                refine wpAnyH_one 9 rfl (by kernel_rfl) (by kernel_rfl) (fun K hK => ?_)
                have hone := Rv.lit w11 [.int .i64 (i : Int), .int .i64 t] 112 1 (by decide)
                have hml : m ≤ 1000000000 := by have := HTL.out x e HE.out; rw [HM.out] at this; exact this
                refine opApp _ _ rfl Try.elTy 0 (.slice ta m tc) m _ rfl (O1d.alloc _) (.slice (some ⟨w11.heap.size, 0, none⟩) 1 1) 1 [.int .i64 (i : Int), .int .i64 t] rfl hone rfl (by intro u hu; simp at hu; rcases hu with rfl | rfl <;> rfl) (by omega) (Nat.zero_le _) ?_
                intro v13 w13 O13 g13 sn13
                obtain ⟨a13, q13, rfl⟩ := own_isSlice O13
                have hrb : ∀ b, (Value.slice ta m tc).ownBlock = some b → b < s ∧ b ≠ bk := fun b hb => by
                  have hb2 : (TV x).ownBlock = some b := by rw [HTV.out, HM.out]; exact hb
                  refine ⟨by rw [← hs]; exact HXR.out b (.inl ((HP10.out.tr x e HE.out).2 b hb2)), ?_⟩
                  rw [← HBK.out]
                  exact kind_ne (HP10.out.kt (k := x) (e := e) HE.out hb2) (HP10.out.ke (k := x) (e := e) HE.out) (by decide)
                have k13 : ∀ b, b < w11.heap.size → (Value.slice ta m tc).ownBlock ≠ some b → w13.heap[b]? = w11.heap[b]? := fun b hb hn => (g13.block b (by simp; omega) (fun q => hn q.symm)).trans (Below.heap_alloc _ _ _ hb)
                have c13 : ∀ b j u, (b = bk ∨ s ≤ b) → w11.cell? ⟨b, j, none⟩ = some u → w13.cell? ⟨b, j, none⟩ = some u := fun b j u hb hc => by
                  rw [← hc]
                  unfold World.cell?
                  rw [k13 b (World.block_lt_of_cell? _ _ hc) (fun q => by have := hrb b q; omega)]
                have e13 := c13 _ _ _ (.inl rfl) e1d
                have s2 := (And.intro (c13 _ _ _ (.inr (by omega)) k1d) (c13 _ _ _ (.inr (by omega)) k2d))
                have hz13 := g13.size
                have f13 : w13.frozen? ⟨bk, 1, none⟩ = false := by
                  have hb := (HP10.out.en x e HE.out).2.1
                  rw [HBK.out] at hb
                  have h11 : w11.heap[bk]? = w10.heap[bk]? := HS10.out.block bk (Array.getElem?_eq_some_iff.1 hb).1
                  have : w13.heap[bk]? = _ := ((k13 bk hbkl (fun q => (hrb bk q).2 rfl)).trans h11).trans hb
                  unfold enO at this
                  simp [World.frozen?, this]
                have hbk13 : bk < w13.heap.size := World.block_lt_of_cell? _ _ e13
                refine hK _ _ s2 ?_
                clear hK
                simp only [Act.put, List.setIfInBounds_toArray]
                refine wpAnyH_do 10 74 rfl rfl (by kernel_rfl) (by kernel_rfl) (by kernel_rfl) (fun _ _ _ _ _ h => h) (by kernel_rfl) (fun W hS => by (obtain ⟨s2, s3⟩ := hS); go_simp; try with_reducible rfl) s2 ?_
                simp only [List.setIfInBounds_toArray, List.set_cons_succ, List.set_cons_zero]
                refine wpAnyH_do 11 75 rfl rfl (by kernel_rfl) (by kernel_rfl) (by kernel_rfl) (fun _ _ _ _ _ h => h) (by kernel_rfl) (fun W hS => by (obtain ⟨s2, s3⟩ := hS); go_simp; try with_reducible rfl) s2 ?_
                simp only [List.setIfInBounds_toArray, List.set_cons_succ, List.set_cons_zero]
                refine wpAnyH_one 12 rfl (by kernel_rfl) (by kernel_rfl) (fun K hK => ?_)
                go_simp
                obtain ⟨w14, hw14⟩ : ∃ W, w13.setCell ⟨bk, 1, none⟩ (.slice a13 (m + 1) q13) = W := ⟨_, rfl⟩
                have o14 : ∀ b, b ≠ bk → w14.heap[b]? = w13.heap[b]? := fun b hb => by rw [← hw14]; exact Below.heap_setCell _ _ _ _ hb
                have z14 : w14.heap.size = w13.heap.size := by rw [← hw14]; exact World.size_setCell _ _ _
                rw [hw14]
                have hsl : ∀ b, s ≤ b → b ≠ bk → b < w11.heap.size → w14.heap[b]? = w11.heap[b]? := fun b hb hn hl => (o14 b hn).trans (k13 b hl (fun q => by have := hrb b q; omega))
                have hbs : bk < s := by
                  rw [← hs, ← HBK.out]
                  exact HXR.out _ (.inl (HP10.out.en x e HE.out).2.2)
                have hl10 := HA10.out.lt
                have hz11 : w11.heap.size = w10.heap.size := HS11.out
                have A14 : AskF w14 s p (i : Int) t 0 (.slice none 0 0) 0 false 0 := HA10.out.kept (fun j hj => (hsl (s + j) (by omega) (by omega) (by omega)).trans (HS10.out.block _ (by omega)))
                refine hK _ _ (And.intro (by have := A14.cs; exact this.2.1) (by have := A14.cs; exact this.2.2.1)) ?_
                refine wpAnyH_done (by kernel_rfl) ?_ _
                gi_wp2
                gi_meet
                refine ⟨a13, q13, ?_⟩
                have hrow13 : w14.ownsRow 0 112 2 (.slice a13 (m + 1) q13) (m + 1) (tcells e.tries ++ [.int .i64 (i : Int), .int .i64 t]) := own_same O13 (fun b hb => o14 b (fun q => by
                  rcases sn13 with h | h
                  · exact (hrb b (h ▸ hb)).2 q
                  · have := h b hb; simp at this; omega))
                have hbk14 : w14.heap[bk]? = some (enO { e with tries := e.tries ++ [((i : Int), t)], lost := e.lost } (BV x) (.slice a13 (m + 1) q13) (AV x)) := by
                  have hb := (HP10.out.en x e HE.out).2.1
                  rw [HBK.out] at hb
                  have h13 := ((k13 bk hbkl (fun q => (hrb bk q).2 rfl)).trans (HS10.out.block bk (by omega))).trans hb
                  rw [← hw14]
                  unfold enO at h13 ⊢
                  simp [World.setCell, Array.getElem?_modify, h13]
                have hold : ∀ b, b < w10.heap.size → b ≠ bk → (Value.slice ta m tc).ownBlock ≠ some b → w14.heap[b]? = w10.heap[b]? := fun b hb h1 h2 => ((o14 b h1).trans (k13 b (by omega) h2)).trans (HS10.out.block b hb)
                have hTVx : TV x = .slice ta m tc := by rw [HTV.out, HM.out]
                have hz14 : w10.heap.size ≤ w14.heap.size := by have := B12.size; omega
                refine ⟨?_, A14, ?_, ?_⟩
                · refine HP10.out.tried (k := x) (e := e) HE.out rfl rfl (by rw [HBK.out]; exact hbk14) hz14 (fun b hb h1 h2 => hold b hb (by rw [HBK.out] at h1; exact h1) (by rw [hTVx] at h2; exact h2)) ?_ (fun g hg => ?_) (ok_tried HP10.out.ok (k := x) (e := e) HE.out i (by show i < D.ws.length; rw [HN.out]; exact hi) e.lost)
                  · show World.ownsRow _ _ _ _ _ (e.tries ++ [((i : Int), t)]).length (tcells (e.tries ++ [((i : Int), t)]))
                    rw [List.length_append, List.length_singleton, HM.out, tcells_snoc]
                    exact hrow13
                  · rw [hTVx]
                    rcases sn13 with h | h
                    · exact .inl (h ▸ hg)
                    · exact .inr (by have := h g hg; simp at this; omega)
                · have hXb : X bk := by rw [← HBK.out]; exact (HP10.out.en x e HE.out).2.2
                  refine (HS8.out.trans (DStep.ofBelow X HB10.out)).trans ⟨?_, ?_, ?_, hz14, fun b hb hx => hold b hb (fun q => hx (q ▸ hXb)) (fun q => hx ((HP10.out.tr x e HE.out).2 b (by rw [hTVx]; exact q))), fun b hb => hb.elim .inl (fun q => ?_)⟩
                  · rw [← hw14]; exact g13.os.trans HS10.out.os
                  · rw [← hw14]; exact g13.tape.trans HS10.out.tape
                  · rw [← hw14]; exact g13.output.trans HS10.out.output
                  · rcases sn13 with h | h
                    · exact .inl ((HP10.out.tr x e HE.out).2 b (by rw [hTVx]; exact h ▸ q))
                    · exact .inr (by have := h b q; simp at this; omega)
                · refine ⟨by have := HZ10.out; omega, fun k o hk ho => ?_⟩
                  have hk10 : w10.heap[k]? = some o := (HW10.out k).trans hk
                  have hb10 := (HP10.out.en x e HE.out).2.1
                  rw [HBK.out] at hb10
                  refine (hold k (Array.getElem?_eq_some_iff.1 hk10).1 (fun q => ?_) (fun q => ?_)).trans hk10
                  · rw [q, hb10] at hk10
                    cases hk10
                    cases ho
                  · have hkt := HP10.out.kt (k := x) (e := e) HE.out (g := k) (by rw [hTVx]; exact q)
                    unfold kindAt at hkt
                    rw [hk10] at hkt
                    cases o <;> simp_all [kindOf, Obj.isCells]
            case rest =>
            obtain ⟨a13, q13, h14⟩ := hcut
            have P14 := h14.px
            have hx14 : ({ ({ D with tick := t } : Pl) with ts := fun j => if j = x then some { e with tries := e.tries ++ [((i : Int), t)], lost := e.lost } else D.ts j } : Pl).ts x = some { e with tries := e.tries ++ [((i : Int), t)], lost := e.lost } := if_pos rfl
            have e2 := P14.e hx14 2 _ rfl
            have f2 := P14.efz hx14 2
            rw [HBK.out] at e2 f2
            have h14l := World.block_lt_of_cell? _ _ e2
            have H14 := Lib.hid h14
            clear h14 P14 hx14 k1 k2 k1d k2d e1 e1d f1 s0 O1 hz10
            gi_upto_region 16 with fail
            obtain ⟨D15, hD15⟩ : ∃ D15 : Pl, D15 = { ({ D with tick := t } : Pl) with ts := fun j => if j = x then some { e with tries := e.tries ++ [((i : Int), t)], lost := false } else D.ts j } := ⟨_, rfl⟩
            have P15 : PX (wc.setCell ⟨bk, 2, none⟩ (.bool false)) p mb wv F ks Bk (fun j => if j = x then .slice a13 (m + 1) q13 else TV j) BV AV (fun b => X b ∨ (Value.slice a13 (m + 1) q13).ownBlock = some b) R D15 :=
              ask15 H14.out HE.out HBK.out hD15
            have A15 : AskF (wc.setCell ⟨bk, 2, none⟩ (.bool false)) s p (i : Int) t 0 (.slice none 0 0) 0 false 0 := H14.out.ask.kept (fun j _ => Below.heap_setCell _ _ _ _ (by
              have := HXR.out _ (.inl (HP10.out.en x e HE.out).2.2)
              rw [HBK.out] at this
              show s + j ≠ bk
              omega))
            have S15 := H14.out.step.set (b := bk) (i := 2) (.inl (by rw [← HBK.out]; exact (HP10.out.en x e HE.out).2.2)) (.bool false)
            have K15 := H14.out.keep.trans (KeepsOthers.setCell wc ⟨bk, 2, none⟩ (.bool false))
            have HHB := Lib.hid h14l
            clear e2 f2 H14 HA10 HB10 HW10 h14l
            generalize wc.setCell ⟨bk, 2, none⟩ (.bool false) = w15 at *
            obtain ⟨k0, k1, k2, _⟩ := A15.cs
            have c2 := P15.c2
            rw [HW.out, HN.out] at c2
            have hz15 := A15.lt
            have HA15 := Lib.hid A15
            have HP15 := Lib.hid P15
            have HS15 := Lib.hid S15
            have HK15 := Lib.hid K15
            have HD15 := Lib.hid hD15
            have k0d : w15.drew.cell? ⟨s, 0, none⟩ = some (.pointer (some ⟨p, 0, none⟩)) := k0
            have k1d : w15.drew.cell? ⟨s + 1, 0, none⟩ = some (.int .i64 (i : Int)) := k1
            have c2d : w15.drew.cell? ⟨p, 2, none⟩ = some (.slice (some ⟨g, 0, none⟩) n c) := c2
            have s0 := And.intro k0d (And.intro k1d c2d)
            clear A15 P15 S15 K15 hD15 k0 k1 k2 c2
            refine wpIn_region_of_any (by kernel_rfl) (noRows_of (by decide)) (fun ⟨_, _, h⟩ => h) ?_
            refine wpAny_of_held (S := fun W => W.cell? ⟨s, 0, none⟩ = some (.pointer (some ⟨p, 0, none⟩)) ∧ W.cell? ⟨s + 1, 0, none⟩ = some (.int .i64 (i : Int)) ∧ W.cell? ⟨p, 2, none⟩ = some (.slice (some ⟨g, 0, none⟩) n c)) _ _ _ _ ?_
            change wpAnyH _ _ _ _ _ _ _ _ w15.drew
            refine wpAnyH_do 0 79 rfl rfl (by kernel_rfl) (by kernel_rfl) (by kernel_rfl) (fun _ _ _ _ _ h => h) (by kernel_rfl) (fun W hS => by (obtain ⟨s1, s2, s3⟩ := hS); go_simp; try with_reducible rfl) s0 ?_
            simp only [List.setIfInBounds_toArray, List.set_cons_succ, List.set_cons_zero]
            refine wpAnyH_do 1 80 rfl rfl (by kernel_rfl) (by kernel_rfl) (by kernel_rfl) (fun _ _ _ _ _ h => h) (by kernel_rfl) (fun W hS => by (obtain ⟨s1, s2, s3⟩ := hS); go_simp; try with_reducible rfl) s0 ?_
            simp only [List.setIfInBounds_toArray, List.set_cons_succ, List.set_cons_zero]
            refine wpAnyH_do 2 81 rfl rfl (by kernel_rfl) (by kernel_rfl) (by kernel_rfl) (fun _ _ _ _ _ h => h) (by kernel_rfl) (fun W hS => by (obtain ⟨s1, s2, s3⟩ := hS); go_simp; try with_reducible rfl) s0 ?_
            simp only [List.setIfInBounds_toArray, List.set_cons_succ, List.set_cons_zero]
            refine wpAnyH_do 3 82 rfl rfl (by kernel_rfl) (by kernel_rfl) (by kernel_rfl) (fun _ _ _ _ _ h => h) (by kernel_rfl) (fun W hS => by (obtain ⟨s1, s2, s3⟩ := hS); go_simp; try with_reducible rfl) s0 ?_
            simp only [List.setIfInBounds_toArray, List.set_cons_succ, List.set_cons_zero]
            refine wpAnyH_do 4 83 rfl rfl (by kernel_rfl) (by kernel_rfl) (by kernel_rfl) (fun _ _ _ _ _ h => h) (by kernel_rfl) (fun W hS => by (obtain ⟨s1, s2, s3⟩ := hS); go_simp; try with_reducible rfl) s0 ?_
            simp only [List.setIfInBounds_toArray, List.set_cons_succ, List.set_cons_zero]
            refine wpAnyH_do 5 84 rfl rfl (by kernel_rfl) (by kernel_rfl) (by kernel_rfl) (fun _ _ _ _ _ h => h) (by kernel_rfl) (fun W hS => by (obtain ⟨s1, s2, s3⟩ := hS); go_simp; try with_reducible rfl) s0 ?_
            simp only [List.setIfInBounds_toArray, List.set_cons_succ, List.set_cons_zero]
            refine wpAnyH_do 6 85 rfl rfl (by kernel_rfl) (by kernel_rfl) (by kernel_rfl) (fun _ _ _ _ _ h => h) (by kernel_rfl) (fun W hS => by (obtain ⟨s1, s2, s3⟩ := hS); go_simp; try with_reducible rfl) s0 ?_
            simp only [List.setIfInBounds_toArray, List.set_cons_succ, List.set_cons_zero]
            have hgl15 : g < w15.heap.size := by
              have := HP15.out.xl g (HP15.out.xw g (by rw [HW.out]; rfl))
              exact this
            have hrow15 : w15.ownsRow 0 105 3 (.slice (some ⟨g, 0, none⟩) D.ws.length c) D.ws.length (wcells D.ws) := by
              have hr := HP15.out.row
              rw [HW.out, HD15.out] at hr
              exact hr
            have hwk15 := HP15.out.wk (i := i) (v := v) (by rw [HD15.out]; exact HV.out)
            obtain ⟨g', c', hwg, _, _, kc1, kc2⟩ := hwk15
            rw [HW.out] at hwg
            injection hwg with q1 q2 q3
            injection q1 with q4
            injection q4 with q5
            subst q5
            clear q2 q3
            have kc1 : w15.drew.cell? ⟨g, i * 3 + 1, none⟩ = some (.bool v.has) := kc1
            have fg16 : w15.drew.frozen? ⟨g, i * 3 + 1, none⟩ = false := hrow15.frozenAt (i * 3 + 1)
            have fg17 : (w15.setCell ⟨g, i * 3 + 1, none⟩ (.bool true)).frozen? ⟨g, i * 3 + 2, none⟩ = false := (hrow15.stored (i * 3 + 1) (.bool true)).1.frozenAt (i * 3 + 2)
            clear hrow15
            have hpg : p ≠ g := kind_ne HP15.out.kp (HP15.out.kw (g := g) (by rw [HW.out]; rfl)) (by decide)
            have hgs : g < s := by
              have := HXR.out g (.inl (HP10.out.xw g (by rw [HW.out]; rfl)))
              omega
            refine wpAnyH_one 7 rfl (by kernel_rfl) (by kernel_rfl) (fun K hK => ?_)
            go_simp
            have t0 : ((w15.setCell ⟨g, i * 3 + 1, none⟩ (.bool true)).drew).cell? ⟨s, 0, none⟩ = some (.pointer (some ⟨p, 0, none⟩)) ∧ ((w15.setCell ⟨g, i * 3 + 1, none⟩ (.bool true)).drew).cell? ⟨s + 1, 0, none⟩ = some (.int .i64 (i : Int)) ∧ ((w15.setCell ⟨g, i * 3 + 1, none⟩ (.bool true)).drew).cell? ⟨p, 2, none⟩ = some (.slice (some ⟨g, 0, none⟩) n c) := And.intro ((cell_set_ne (w := w15.drew) (show s ≠ g by omega) (i * 3 + 1) 0 (.bool true)).trans k0d) (And.intro ((cell_set_ne (w := w15.drew) (show s + 1 ≠ g by omega) (i * 3 + 1) 0 (.bool true)).trans k1d) ((cell_set_ne (w := w15.drew) hpg (i * 3 + 1) 2 (.bool true)).trans c2d))
            refine hK _ _ t0 ?_
            clear hK
            refine wpAnyH_done (by kernel_rfl) ?_ _
            have H16 := Lib.hid (show (w15.setCell ⟨g, i * 3 + 1, none⟩ (.bool true)).drew.heap = (w15.setCell ⟨g, i * 3 + 1, none⟩ (.bool true)).heap from rfl)
            have hz16 : (w15.setCell ⟨g, i * 3 + 1, none⟩ (.bool true)).drew.heap.size = w15.heap.size := World.size_setCell _ _ _
            have HO16 := Lib.hid (show (w15.setCell ⟨g, i * 3 + 1, none⟩ (.bool true)).drew.os = w15.os ∧ (w15.setCell ⟨g, i * 3 + 1, none⟩ (.bool true)).drew.tape = w15.tape ∧ (w15.setCell ⟨g, i * 3 + 1, none⟩ (.bool true)).drew.output = w15.output from ⟨rfl, rfl, rfl⟩)
            have fg17 : (w15.setCell ⟨g, i * 3 + 1, none⟩ (.bool true)).drew.frozen? ⟨g, i * 3 + 2, none⟩ = false := fg17
            have kc2 : (w15.setCell ⟨g, i * 3 + 1, none⟩ (.bool true)).drew.cell? ⟨g, i * 3 + 2, none⟩ = some (.int .i64 v.task) := (cell_set_at (w := w15.drew) (show i * 3 + 2 ≠ i * 3 + 1 by omega) (.bool true)).trans kc2
            clear kc1 s0 k0d k1d c2d fg16
            generalize (w15.setCell ⟨g, i * 3 + 1, none⟩ (.bool true)).drew = w16 at *
            have HZ16 := Lib.hid hz16
            have k0d : w16.drew.cell? ⟨s, 0, none⟩ = some (.pointer (some ⟨p, 0, none⟩)) := t0.1
            have k1d : w16.drew.cell? ⟨s + 1, 0, none⟩ = some (.int .i64 (i : Int)) := t0.2.1
            have c2d : w16.drew.cell? ⟨p, 2, none⟩ = some (.slice (some ⟨g, 0, none⟩) n c) := t0.2.2
            have fg17 : w16.drew.frozen? ⟨g, i * 3 + 2, none⟩ = false := fg17
            have kc2 : w16.drew.cell? ⟨g, i * 3 + 2, none⟩ = some (.int .i64 v.task) := kc2
            have hgl16 : g < w16.heap.size := by omega
            have s0 := And.intro k0d (And.intro k1d c2d)
            clear t0 hz16 hgl15 hz15
            gi_upto_region 17 with fail
            refine wpIn_region_of_any (by kernel_rfl) (noRows_of (by decide)) (fun ⟨_, _, h⟩ => h) ?_
            refine wpAny_of_held (S := fun W => W.cell? ⟨s, 0, none⟩ = some (.pointer (some ⟨p, 0, none⟩)) ∧ W.cell? ⟨s + 1, 0, none⟩ = some (.int .i64 (i : Int)) ∧ W.cell? ⟨p, 2, none⟩ = some (.slice (some ⟨g, 0, none⟩) n c)) _ _ _ _ ?_
            change wpAnyH _ _ _ _ _ _ _ _ w16.drew
            refine wpAnyH_do 0 86 rfl rfl (by kernel_rfl) (by kernel_rfl) (by kernel_rfl) (fun _ _ _ _ _ h => h) (by kernel_rfl) (fun W hS => by (obtain ⟨s1, s2, s3⟩ := hS); go_simp; try with_reducible rfl) s0 ?_
            simp only [List.setIfInBounds_toArray, List.set_cons_succ, List.set_cons_zero]
            refine wpAnyH_do 1 87 rfl rfl (by kernel_rfl) (by kernel_rfl) (by kernel_rfl) (fun _ _ _ _ _ h => h) (by kernel_rfl) (fun W hS => by (obtain ⟨s1, s2, s3⟩ := hS); go_simp; try with_reducible rfl) s0 ?_
            simp only [List.setIfInBounds_toArray, List.set_cons_succ, List.set_cons_zero]
            refine wpAnyH_do 2 88 rfl rfl (by kernel_rfl) (by kernel_rfl) (by kernel_rfl) (fun _ _ _ _ _ h => h) (by kernel_rfl) (fun W hS => by (obtain ⟨s1, s2, s3⟩ := hS); go_simp; try with_reducible rfl) s0 ?_
            simp only [List.setIfInBounds_toArray, List.set_cons_succ, List.set_cons_zero]
            refine wpAnyH_do 3 89 rfl rfl (by kernel_rfl) (by kernel_rfl) (by kernel_rfl) (fun _ _ _ _ _ h => h) (by kernel_rfl) (fun W hS => by (obtain ⟨s1, s2, s3⟩ := hS); go_simp; try with_reducible rfl) s0 ?_
            simp only [List.setIfInBounds_toArray, List.set_cons_succ, List.set_cons_zero]
            refine wpAnyH_do 4 90 rfl rfl (by kernel_rfl) (by kernel_rfl) (by kernel_rfl) (fun _ _ _ _ _ h => h) (by kernel_rfl) (fun W hS => by (obtain ⟨s1, s2, s3⟩ := hS); go_simp; try with_reducible rfl) s0 ?_
            simp only [List.setIfInBounds_toArray, List.set_cons_succ, List.set_cons_zero]
            refine wpAnyH_do 5 91 rfl rfl (by kernel_rfl) (by kernel_rfl) (by kernel_rfl) (fun _ _ _ _ _ h => h) (by kernel_rfl) (fun W hS => by (obtain ⟨s1, s2, s3⟩ := hS); go_simp; try with_reducible rfl) s0 ?_
            simp only [List.setIfInBounds_toArray, List.set_cons_succ, List.set_cons_zero]
            refine wpAnyH_do 6 92 rfl rfl (by kernel_rfl) (by kernel_rfl) (by kernel_rfl) (fun _ _ _ _ _ h => h) (by kernel_rfl) (fun W hS => by (obtain ⟨s1, s2, s3⟩ := hS); go_simp; try with_reducible rfl) s0 ?_
            simp only [List.setIfInBounds_toArray, List.set_cons_succ, List.set_cons_zero]
            refine wpAnyH_do 7 93 rfl rfl (by kernel_rfl) (by kernel_rfl) (by kernel_rfl) (fun _ _ _ _ _ h => h) (by kernel_rfl) (fun W hS => by (obtain ⟨s1, s2, s3⟩ := hS); go_simp; try with_reducible rfl) s0 ?_
            simp only [List.setIfInBounds_toArray, List.set_cons_succ, List.set_cons_zero]
            refine wpAnyH_one 8 rfl (by kernel_rfl) (by kernel_rfl) (fun K hK => ?_)
            go_simp
            have t0 := And.intro ((cell_set_ne (w := w16.drew) (show s ≠ g by omega) (i * 3 + 2) 0 (.int .i64 x)).trans k0d) (And.intro ((cell_set_ne (w := w16.drew) (show s + 1 ≠ g by omega) (i * 3 + 2) 0 (.int .i64 x)).trans k1d) ((cell_set_ne (w := w16.drew) hpg (i * 3 + 2) 2 (.int .i64 x)).trans c2d))
            refine hK _ _ t0 ?_
            clear hK
            refine wpAnyH_done (by kernel_rfl) ?_ _
            obtain ⟨D17, hD17⟩ : ∃ D17, D17 = ({ D with tick := t } : Pl).give i v t x e := ⟨_, rfl⟩
            have H17 : R17 w W (w16.setCell ⟨g, i * 3 + 2, none⟩ (.int .i64 x)).drew s p mb wv F ks Bk (fun j => if j = x then .slice a13 (m + 1) q13 else TV j) BV AV (fun b => X b ∨ (Value.slice a13 (m + 1) q13).ownBlock = some b) X R D17 i t :=
              ask17 HW.out HV.out HP15.out HA15.out HS15.out HK15.out HD15.out hD17 (by have := H16.out; show (w16.setCell _ _).heap = _; unfold World.setCell at this ⊢; simp only [this]) HO16.out hgs
            have kx : ({ D with tick := t } : Pl).ts x = some e := HE.out
            have hx17 : D17.ts x = some { e with tries := e.tries ++ [((i : Int), t)], lost := false } := by rw [hD17]; exact if_pos rfl
            have hz17 : (w16.setCell ⟨g, i * 3 + 2, none⟩ (.int .i64 x)).drew.heap.size = w16.heap.size := World.size_setCell _ _ _
            clear s0 t0 k0d k1d c2d fg17 kc2 hgl16 H16 HO16 HA15 HP15 HS15 HK15 HD15
            generalize (w16.setCell ⟨g, i * 3 + 2, none⟩ (.int .i64 x)).drew = w17 at *
            have d0 := H17.px.e hx17 0 _ rfl
            have d1 := H17.px.e hx17 1 _ rfl
            rw [HBK.out] at d0 d1
            rw [if_pos rfl] at d1
            have hbv := (H17.px.bd x _ hx17).1.1
            have hbl := (H17.px.ok.bod x _ hx17).1
            have hbl : e.body.length ≤ 1000000000 := by
              have : e.body.length ≤ 65536 := hbl
              omega
            have hbv : Rv w17 (BV x) e.body.length (e.body.map vB) := hbv
            obtain ⟨ba, bc, hBV, _, _⟩ := hbv.opened
            rw [hBV] at d0 hbv
            obtain ⟨bl, hbl2⟩ : ∃ l, e.body.length = l := ⟨_, rfl⟩
            rw [hbl2] at d0
            have HBL := Lib.hid hbl2
            have hbs : bk < s := by
              have := HXR.out _ (.inl (HP10.out.en x e HE.out).2.2)
              rw [HBK.out] at this
              omega
            have HCL := Lib.hid (show Calls Try.prog 49 #[.slice ba bl bc] w17.drew (RetMade w17.drew 5 (e.body.map vB)) from by
              have := cloneB_any (.slice ba e.body.length bc) e.body w17.drew hbv hbl
              rw [hbl2] at this
              exact this)
            have hwm : IntKind.i64.wrap (m : Int) = (m : Int) := by
              have hml : m ≤ 1000000000 := by have := HTL.out x e HE.out; rw [HM.out] at this; exact this
              rw [IntKind.wrap_i64]
              omega
            have d0d : w17.drew.cell? ⟨bk, 0, none⟩ = some (.slice ba bl bc) := d0
            have d1d : w17.drew.cell? ⟨bk, 1, none⟩ = some (.slice a13 (m + 1) q13) := d1
            have s0 := And.intro d0d d1d
            have HZ17 := Lib.hid hz17
            have HHX := Lib.hid hx17
            have HD17 := Lib.hid hD17
            have H17' := Lib.hid H17
            clear d0 d1 H17 hbv hbl hBV hbl2 hz17 hx17 hD17 kx HP10
            gi_upto_region 18 with fail
            refine wpIn_region_of_any (by kernel_rfl) (noRows_of (by decide)) (fun ⟨_, _, h⟩ => h) ?_
            refine wpAny_of_held (S := fun W => W.cell? ⟨bk, 0, none⟩ = some (.slice ba bl bc) ∧ W.cell? ⟨bk, 1, none⟩ = some (.slice a13 (m + 1) q13)) _ _ _ _ ?_
            change wpAnyH _ _ _ _ _ _ _ _ w17.drew
            refine wpAnyH_do 0 94 rfl rfl (by kernel_rfl) (by kernel_rfl) (by kernel_rfl) (fun _ _ _ _ _ h => h) (by kernel_rfl) (fun W hS => by (obtain ⟨s1, s2⟩ := hS); go_simp; try with_reducible rfl) s0 ?_
            simp only [List.setIfInBounds_toArray, List.set_cons_succ, List.set_cons_zero]
            refine wpAnyH_do 1 95 rfl rfl (by kernel_rfl) (by kernel_rfl) (by kernel_rfl) (fun _ _ _ _ _ h => h) (by kernel_rfl) (fun W hS => by (obtain ⟨s1, s2⟩ := hS); go_simp; try with_reducible rfl) s0 ?_
            simp only [List.setIfInBounds_toArray, List.set_cons_succ, List.set_cons_zero]
            refine wpAnyH_do 2 96 rfl rfl (by kernel_rfl) (by kernel_rfl) (by kernel_rfl) (fun _ _ _ _ _ h => h) (by kernel_rfl) (fun W hS => by (obtain ⟨s1, s2⟩ := hS); go_simp; try with_reducible rfl) s0 ?_
            simp only [List.setIfInBounds_toArray, List.set_cons_succ, List.set_cons_zero]
            refine wpAnyH_do 3 97 rfl rfl (by kernel_rfl) (by kernel_rfl) (by kernel_rfl) (fun _ _ _ _ _ h => h) (by kernel_rfl) (fun W hS => by (obtain ⟨s1, s2⟩ := hS); go_simp; try with_reducible rfl) s0 ?_
            simp only [List.setIfInBounds_toArray, List.set_cons_succ, List.set_cons_zero]
            refine wpAnyH_do 4 98 rfl rfl (by kernel_rfl) (by kernel_rfl) (by kernel_rfl) (fun _ _ _ _ _ h => h) (by kernel_rfl) (fun W hS => by (obtain ⟨s1, s2⟩ := hS); go_simp; try with_reducible rfl) s0 ?_
            simp only [List.setIfInBounds_toArray, List.set_cons_succ, List.set_cons_zero]
            refine wpAnyH_do 7 101 rfl rfl (by kernel_rfl) (by kernel_rfl) (by kernel_rfl) (fun _ _ _ _ _ h => h) (by kernel_rfl) (fun W hS => by (obtain ⟨s1, s2⟩ := hS); go_simp; try with_reducible rfl) s0 ?_
            simp only [List.setIfInBounds_toArray, List.set_cons_succ, List.set_cons_zero]
            refine wpAnyH_do 8 102 rfl rfl (by kernel_rfl) (by kernel_rfl) (by kernel_rfl) (fun _ _ _ _ _ h => h) (by kernel_rfl) (fun W hS => by (obtain ⟨s1, s2⟩ := hS); go_simp; try with_reducible rfl) s0 ?_
            simp only [List.setIfInBounds_toArray, List.set_cons_succ, List.set_cons_zero]
            refine wpAnyH_do 9 103 rfl rfl (by kernel_rfl) (by kernel_rfl) (by kernel_rfl) (fun _ _ _ _ _ h => h) (by kernel_rfl) (fun W hS => by (obtain ⟨s1, s2⟩ := hS); go_simp; try with_reducible rfl) s0 ?_
            simp only [List.setIfInBounds_toArray, List.set_cons_succ, List.set_cons_zero]
            refine wpAnyH_do 10 104 rfl rfl (by kernel_rfl) (by kernel_rfl) (by kernel_rfl) (fun _ _ _ _ _ h => h) (by kernel_rfl) (fun W hS => by (obtain ⟨s1, s2⟩ := hS); go_simp; try with_reducible rfl) s0 ?_
            simp only [List.setIfInBounds_toArray, List.set_cons_succ, List.set_cons_zero]
            refine wpAnyH_do 11 105 rfl rfl (by kernel_rfl) (by kernel_rfl) (by kernel_rfl) (fun _ _ _ _ _ h => h) (by kernel_rfl) (fun W hS => by (obtain ⟨s1, s2⟩ := hS); go_simp; try with_reducible rfl) s0 ?_
            simp only [List.setIfInBounds_toArray, List.set_cons_succ, List.set_cons_zero]
            refine wpAnyH_do 12 106 rfl rfl (by kernel_rfl) (by kernel_rfl) (by kernel_rfl) (fun _ _ _ _ _ h => h) (by kernel_rfl) (fun W hS => by (obtain ⟨s1, s2⟩ := hS); go_simp; try with_reducible rfl) s0 ?_
            simp only [List.setIfInBounds_toArray, List.set_cons_succ, List.set_cons_zero]
            have HA17 := Lib.hid (AskF.later H17'.out.ask (Below.refl w17.heap.size w17).drew)
            refine wpAnyH_one 5 rfl (by kernel_rfl) (by kernel_rfl) (fun K hK => ?_)
            go_simp
            refine HCL.out.mono ?_
            rintro e5 w18 ⟨v3, rfl, M3⟩
            have B18 : Below w17.heap.size w17 w18 := ((Below.refl w17.heap.size w17).drew).trans (M3.2.mono (Nat.le_refl _))
            have O18 : w18.ownsRow w17.heap.size 5 1 v3 e.body.length (e.body.map vB) := by
              have := M3.1
              rw [List.length_map] at this
              exact this
            rw [HBL.out] at O18
            obtain ⟨a3, c3v, rfl⟩ := own_isSlice O18
            have A18 := H17'.out.ask.later B18
            obtain ⟨_, _, _, k3, k3b, k4, k5, k6⟩ := A18.cs
            obtain ⟨z3, z3b, z4, z5, z6⟩ := A18.fz
            have hl18 := A18.lt
            have s1 := And.intro ((B18.cell (p := ⟨bk, 0, none⟩) (World.block_lt_of_cell? _ _ d0d)).trans d0d) ((B18.cell (p := ⟨bk, 1, none⟩) (World.block_lt_of_cell? _ _ d1d)).trans d1d)
            refine hK _ _ s1 ?_
            clear hK
            refine wpAnyH_do 6 100 rfl rfl (by kernel_rfl) (by kernel_rfl) (by kernel_rfl) (fun _ _ _ _ _ h => h) (by kernel_rfl) (fun W hS => by (obtain ⟨s2, s3⟩ := hS); go_simp; try with_reducible rfl) s1 ?_
            simp only [List.setIfInBounds_toArray, List.set_cons_succ, List.set_cons_zero]
            have sst : ∀ (W : World) (b k : Nat) (u : Value), bk ≠ b → (W.cell? ⟨bk, 0, none⟩ = some (.slice ba bl bc) ∧ W.cell? ⟨bk, 1, none⟩ = some (.slice a13 (m + 1) q13)) → ((W.setCell ⟨b, k, none⟩ u).cell? ⟨bk, 0, none⟩ = some (.slice ba bl bc) ∧ (W.setCell ⟨b, k, none⟩ u).cell? ⟨bk, 1, none⟩ = some (.slice a13 (m + 1) q13)) :=
              fun W b k u hb h => ⟨(cell_set_ne hb k 0 u).trans h.1, (cell_set_ne hb k 1 u).trans h.2⟩
            have SST := Lib.hid sst
            clear sst
            refine wpAnyH_one 13 rfl (by kernel_rfl) (by kernel_rfl) (fun K hK => ?_)
            go_simp
            have s2 := SST.out _ (s + 3) 1 (.slice a3 bl c3v) (by omega) (SST.out w18 (s + 3) 0 (.int .i64 x) (by omega) s1)
            refine hK _ _ s2 ?_
            clear hK
            refine wpAnyH_one 14 rfl (by kernel_rfl) (by kernel_rfl) (fun K hK => ?_)
            go_simp
            have s3 := SST.out _ (s + 4) 0 (.int .i64 (m : Int)) (by omega) s2
            refine hK _ _ s3 ?_
            clear hK
            refine wpAnyH_one 15 rfl (by kernel_rfl) (by kernel_rfl) (fun K hK => ?_)
            go_simp
            have s4 := SST.out _ (s + 5) 0 (.bool true) (by omega) s3
            refine hK _ _ s4 ?_
            clear hK
            refine wpAnyH_one 16 rfl (by kernel_rfl) (by kernel_rfl) (fun K hK => ?_)
            go_simp
            refine hK _ _ (SST.out _ (s + 6) 0 (.int .i64 0) (by omega) s4) ?_
            clear hK
            refine wpAnyH_done (by kernel_rfl) ?_ _
            gi_wp2
            have KS : KeepsOthers w17 w18 := ⟨B18.size, fun k o hk _ => (B18.block k (Array.getElem?_eq_some_iff.1 hk).1).trans hk⟩
            have KS := H17'.out.keep.trans KS
            have K5 := ((((KeepsOthers.setCell w18 ⟨s + 3, 0, none⟩ (.int .i64 x)).trans (KeepsOthers.setCell _ ⟨s + 3, 1, none⟩ (.slice a3 bl c3v))).trans (KeepsOthers.setCell _ ⟨s + 4, 0, none⟩ (.int .i64 (m : Int)))).trans (KeepsOthers.setCell _ ⟨s + 5, 0, none⟩ (.bool true))).trans (KeepsOthers.setCell _ ⟨s + 6, 0, none⟩ (.int .i64 0))
            have HG := ask_got (N := N + 1) (e := e) H17'.out ⟨_, HHX.out⟩ B18 (by rw [HBL.out]; exact O18) HM.out HXR.out hs (by omega)
            rw [HD17.out] at HG
            exact ⟨(KS.trans K5).from _, rfl, x, e, HPI2.out, HG⟩
          · have hpn := HPK.out
            rw [HU.out, if_pos rfl] at hpn
            gi_wp2
            exact ⟨⟨Nat.le_refl _, fun _ _ _ h _ => h⟩, KeepO.of_same (Nat.le_refl _) (fun _ _ _ => rfl) rfl, hpn, by rw [← hs8]; exact belD HB9.out nq⟩
        case done =>
          rintro E xs W hD rfl ⟨hpk, hB⟩ hK
          have hO := HO3.out
          rw [hpk] at hO
          simp only at hO
          have A9 := HA8.out.later hB
          obtain ⟨z3, z3b, z4, z5, z6⟩ := A9.fz
          obtain ⟨_, _, _, k3, k3b, k4, k5, k6⟩ := A9.cs
          have hz9 := hB.size
          have HB := Lib.hid hB
          have HAf := Lib.hid A9
          have HKK := Lib.hid hK
          clear A9 hK hB hpk
          gi_wp2
          rw [← hO]
          have hxr := HXR.out
          refine ask_leave (N := w8.heap.size) ⟨.slice none 0 0, X, HAf.out.set 0 (.slice none 0 0) 0 false 0, ?_, World.ownsRow_nil .., ?_, (fun g hg => by cases hg), (fun b hb => .inl (by have := hxr b (.inl hb); omega)), (fun b hb => by have := hxr b (.inr hb); omega), by omega, by omega⟩ hD ((askSet_other W s _ _ _ _ _ E (by omega)).trans HKK.out) rfl rfl rfl rfl
          · exact ⟨_, _, _, _, _, _, _, _, (HP8.out.later HB.out).kept (by rw [askSet_size]; exact Nat.le_refl _) (fun b hb => askSet_other W s _ _ _ _ _ b (by have := hxr b (.inl hb); omega)) (fun b hb => askSet_other W s _ _ _ _ _ b (by have := hxr b (.inr hb); omega))⟩
          · exact ((((((HS8.out.trans (DStep.ofBelow X HB.out)).set (b := s + 3) (.inr (by omega)) _).set (b := s + 3) (.inr (by omega)) _).set (b := s + 4) (.inr (by omega)) _).set (b := s + 5) (.inr (by omega)) _).set (b := s + 6) (.inr (by omega)) _)
        case stop =>
          rintro E c pre W hD ⟨rfl, k, e, hpk, hG⟩ hK
          have hO := HO3.out
          rw [hpk] at hO
          simp only at hO
          gi_wp2
          rw [← hO]
          exact ask_leave hG hD hK rfl rfl rfl rfl
      · have hO := HO2.out
        rw [hbz, if_pos rfl] at hO
        have B07 : Below w.heap.size w w6 := bel (bel B4 HB5.out) B6
        have A6 := HA5.out.later B6
        obtain ⟨z3, z3b, z4, z5, z6⟩ := A6.fz
        obtain ⟨_, _, _, k3, k3b, k4, k5, k6⟩ := A6.cs
        have hs6 := B6.size
        gi_wp2
        rw [← hO]
        exact ask_fin (A6.set 0 (.slice none 0 0) 0 false 15) rfl rfl rfl rfl (ask_no HH.out (below_askSet B07 (by omega) _ _ _ _ _))
    · rw [hd] at d0 hO
      rw [if_pos rfl] at hO
      gi_upto_region 4 with (refine ⟨trivial, ?_⟩; gi_at_call 50; refine (callsIn_wide.2 HWR.out).mono ?_; rintro e w1 ⟨rfl, rfl⟩)
      gi_quiet (fail)
      have B4 : Below w.heap.size w (w1.drewN nq) := belD B0 nq
      have A4 : AskF (w1.drewN nq) s p (i : Int) t 0 (.slice none 0 0) 0 false 0 := HA0.out.kept (fun _ _ => rfl)
      obtain ⟨z3, z3b, z4, z5, z6⟩ := A4.fz
      obtain ⟨_, _, _, k3, k3b, k4, k5, k6⟩ := A4.cs
      have hs4 : (w1.drewN nq).heap.size = s + 7 := hs0
      generalize w1.drewN nq = w4 at *
      gi_wp2
      rw [← hO]
      exact ask_fin (A4.set 0 (.slice none 0 0) 0 false 19) rfl rfl rfl rfl (ask_no HH.out (below_askSet B4 (by omega) _ _ _ _ _))
  · have hO := HO1.out
    rw [if_pos hr0] at hO
    gi_wp2_with (refine ⟨trivial, ?_⟩; gi_at_call 50; refine (callsIn_wide.2 HWR.out).mono ?_; rintro e w1 ⟨rfl, rfl⟩)
    rw [← hO]
    exact ask_fin (HA0.out.set 0 (.slice none 0 0) 0 false r) rfl rfl rfl rfl (ask_no HH.out (below_askSet B0 (by omega) _ _ _ _ _))
end
end Go.Proofs.Ytfdacckkdjpjhaa
