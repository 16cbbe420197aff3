/- Package pool: what a pool is, and how it lies in memory. -/
import Derived.Test.YtfdacckkdjpjhaaStp
import Derived.Test.YtfdacckkdjpjhaaMapF
import Derived.Test.YtfdacckkdjpjhaaRefA
import Derived.Test.YtfdacckkdjpjhaaLibIn
import Derived.Test.YtfdacckkdjpjhaaSame
namespace Go.Proofs.Ytfdacckkdjpjhaa
open Go.RowKit

/-- An answer; a task with its tries (worker, tick); a worker; a pool. -/
structure Rep where
  task : Int
  worker : Int
  tr : Int
  body : List UInt8
structure En where
  body : List UInt8
  tries : List (Int × Int)
  lost : Bool
  done : Bool
  ans : Rep
structure Wk where
  dead : Bool
  has : Bool
  task : Int
structure Pl where
  timeout : Int
  tick : Int
  ws : List Wk
  ids : List Int
  ts : Int → Option En
/-- What every pool is. -/
structure POk (D : Pl) : Prop where
  ord : D.ids.Pairwise (· < ·)
  mem : ∀ k, k ∈ D.ids ↔ ∃ e, D.ts k = some e
  idr : ∀ k ∈ D.ids, 0 ≤ k ∧ k ≤ 9223372036854775807
  many : D.ids.length ≤ 1024
  tmo : 1 ≤ D.timeout ∧ D.timeout ≤ 1099511627776
  tck : 0 ≤ D.tick ∧ D.tick ≤ 1099511627776
  wsl : 1 ≤ D.ws.length ∧ D.ws.length ≤ 64
  bod : ∀ k e, D.ts k = some e → e.body.length ≤ 65536 ∧ e.ans.body.length ≤ 65536
  tri : ∀ k e, D.ts k = some e → ∀ t ∈ e.tries, (0 ≤ t.1 ∧ t.1 < (D.ws.length : Int)) ∧ 0 ≤ t.2 ∧ t.2 ≤ D.tick
  has : ∀ (i : Nat) v, D.ws[i]? = some v → v.has = true → ∃ e, D.ts v.task = some e ∧ e.tries ≠ []
def Wk.cells (v : Wk) : List Value := [.bool v.dead, .bool v.has, .int .i64 v.task]
def wcells (l : List Wk) : List Value := l.flatMap Wk.cells
def tcells (l : List (Int × Int)) : List Value := l.flatMap fun t => [.int .i64 t.1, .int .i64 t.2]
def enO (e : En) (bv tv av : Value) : Obj := .cells #[bv, tv, .bool e.lost, .bool e.done, .int .i64 e.ans.task, .int .i64 e.ans.worker, .int .i64 e.ans.tr, av] 103 (0, 0)
def plO (D : Pl) (wv : Value) (mb : Nat) : Obj := .cells #[.int .i64 D.timeout, .int .i64 D.tick, wv, .map (some mb)] 98 (0, 0)
/-- The pool D in block p, its workers' row wv, its map in block mb; the entry of key k in block B k, its tries, body and answer's body TV k, BV k, AV k. X: what is written; R: the bodies. -/
structure PX (w : World) (p mb : Nat) (wv : Value) (F : Int → Option Value) (ks : List Int) (B : Int → Nat) (TV BV AV : Int → Value) (X R : Nat → Prop) (D : Pl) : Prop where
  blk : w.heap[p]? = some (plO D wv mb)
  map : MapF w mb F ks
  row : w.ownsRow 0 105 3 wv D.ws.length (wcells D.ws)
  emp : ∀ k, D.ts k = none → F k = none
  en : ∀ k e, D.ts k = some e → F k = some (.pointer (some ⟨B k, 0, none⟩)) ∧ w.heap[B k]? = some (enO e (BV k) (TV k) (AV k)) ∧ X (B k)
  tr : ∀ k e, D.ts k = some e → w.ownsRow 0 112 2 (TV k) e.tries.length (tcells e.tries) ∧ ∀ b, (TV k).ownBlock = some b → X b
  bd : ∀ k e, D.ts k = some e → (Rv w (BV k) e.body.length (e.body.map vB) ∧ ∀ b, (BV k).ownBlock = some b → R b) ∧ Rv w (AV k) e.ans.body.length (e.ans.body.map vB) ∧ ∀ b, (AV k).ownBlock = some b → R b
  inj : ∀ j k e f, D.ts j = some e → D.ts k = some f → B j = B k → j = k
  tsep : ∀ j k e f b, D.ts j = some e → D.ts k = some f → (TV j).ownBlock = some b → (TV k).ownBlock = some b → j = k
  xp : X p
  xm : X mb
  xw : ∀ b, wv.ownBlock = some b → X b
  sep : ∀ b, X b → ¬ R b
  xl : ∀ b, X b → b < w.heap.size
  rl : ∀ b, R b → b < w.heap.size
  ok : POk D
def PAt (w : World) (p : Nat) (X R : Nat → Prop) (D : Pl) : Prop := ∃ mb wv F ks B TV BV AV, PX w p mb wv F ks B TV BV AV X R D
section
variable {w w' : World} {p mb : Nat} {wv : Value} {F : Int → Option Value} {ks : List Int} {B : Int → Nat} {TV BV AV : Int → Value} {X R X' Z : Nat → Prop} {D : Pl}
theorem PX.lt (h : PX w p mb wv F ks B TV BV AV X R D) : p < w.heap.size := h.xl p h.xp
theorem PX.c0 (h : PX w p mb wv F ks B TV BV AV X R D) : w.cell? ⟨p, 0, none⟩ = some (.int .i64 D.timeout) := by have := h.blk; unfold plO at this; simp [World.cell?, this]
theorem PX.c1 (h : PX w p mb wv F ks B TV BV AV X R D) : w.cell? ⟨p, 1, none⟩ = some (.int .i64 D.tick) := by have := h.blk; unfold plO at this; simp [World.cell?, this]
theorem PX.c2 (h : PX w p mb wv F ks B TV BV AV X R D) : w.cell? ⟨p, 2, none⟩ = some wv := by have := h.blk; unfold plO at this; simp [World.cell?, this]
theorem PX.c3 (h : PX w p mb wv F ks B TV BV AV X R D) : w.cell? ⟨p, 3, none⟩ = some (.map (some mb)) := by have := h.blk; unfold plO at this; simp [World.cell?, this]
theorem PX.fz (h : PX w p mb wv F ks B TV BV AV X R D) (j : Nat) : w.frozen? ⟨p, j, none⟩ = false := by have := h.blk; unfold plO at this; simp [World.frozen?, this]
theorem PX.e (h : PX w p mb wv F ks B TV BV AV X R D) {k : Int} {e : En} (hk : D.ts k = some e) (j : Nat) (v : Value) (hv : [BV k, TV k, .bool e.lost, .bool e.done, .int .i64 e.ans.task, .int .i64 e.ans.worker, .int .i64 e.ans.tr, AV k][j]? = some v) : w.cell? ⟨B k, j, none⟩ = some v := by
  have := (h.en k e hk).2.1
  unfold enO at this
  simp only [World.cell?, this]
  simpa using hv
theorem PX.efz (h : PX w p mb wv F ks B TV BV AV X R D) {k : Int} {e : En} (hk : D.ts k = some e) (j : Nat) : w.frozen? ⟨B k, j, none⟩ = false := by
  have := (h.en k e hk).2.1
  unfold enO at this
  simp [World.frozen?, this]
/-- Where none of its blocks has changed. -/
theorem PX.kept (h : PX w p mb wv F ks B TV BV AV X R D) (hs : w.heap.size ≤ w'.heap.size) (hX : ∀ b, X b → w'.heap[b]? = w.heap[b]?) (hR : ∀ b, R b → w'.heap[b]? = w.heap[b]?) : PX w' p mb wv F ks B TV BV AV X R D :=
  ⟨(hX p h.xp).trans h.blk, h.map.kept (hX mb h.xm), own_same h.row (fun b hb => hX b (h.xw b hb)), h.emp,
    fun k e hk => ⟨(h.en k e hk).1, (hX _ (h.en k e hk).2.2).trans (h.en k e hk).2.1, (h.en k e hk).2.2⟩,
    fun k e hk => ⟨own_same (h.tr k e hk).1 (fun b hb => hX b ((h.tr k e hk).2 b hb)), (h.tr k e hk).2⟩,
    fun k e hk => ⟨⟨rvSame (h.bd k e hk).1.1 (fun g _ hg => hR g ((h.bd k e hk).1.2 g hg)), (h.bd k e hk).1.2⟩, rvSame (h.bd k e hk).2.1 (fun g _ hg => hR g ((h.bd k e hk).2.2 g hg)), (h.bd k e hk).2.2⟩,
    h.inj, h.tsep, h.xp, h.xm, h.xw, h.sep, fun b hb => Nat.lt_of_lt_of_le (h.xl b hb) hs, fun b hb => Nat.lt_of_lt_of_le (h.rl b hb) hs, h.ok⟩
theorem PX.later (h : PX w p mb wv F ks B TV BV AV X R D) (b : Below w.heap.size w w') : PX w' p mb wv F ks B TV BV AV X R D := h.kept b.size (fun x hx => b.block x (h.xl x hx)) (fun x hx => b.block x (h.rl x hx))
theorem PX.other (h : PX w p mb wv F ks B TV BV AV X R D) (S : DStep Z X' w w') (hX : ∀ b, X b → ¬ Z b) (hR : ∀ b, R b → ¬ Z b) : PX w' p mb wv F ks B TV BV AV X R D := h.kept S.size (fun x hx => S.block x (h.xl x hx) (hX x hx)) (fun x hx => S.block x (h.rl x hx) (hR x hx))
theorem PAt.later (h : PAt w p X R D) (b : Below w.heap.size w w') : PAt w' p X R D := by obtain ⟨_, _, _, _, _, _, _, _, h⟩ := h; exact ⟨_, _, _, _, _, _, _, _, h.later b⟩
theorem PAt.other (h : PAt w p X R D) (S : DStep Z X' w w') (hX : ∀ b, X b → ¬ Z b) (hR : ∀ b, R b → ¬ Z b) : PAt w' p X R D := by obtain ⟨_, _, _, _, _, _, _, _, h⟩ := h; exact ⟨_, _, _, _, _, _, _, _, h.other S hX hR⟩
theorem PAt.ok (h : PAt w p X R D) : POk D := by obtain ⟨_, _, _, _, _, _, _, _, h⟩ := h; exact h.ok
theorem PAt.xl (h : PAt w p X R D) : ∀ b, X b → b < w.heap.size := by obtain ⟨_, _, _, _, _, _, _, _, h⟩ := h; exact h.xl
theorem PAt.rl (h : PAt w p X R D) : ∀ b, R b → b < w.heap.size := by obtain ⟨_, _, _, _, _, _, _, _, h⟩ := h; exact h.rl
/-- One worker's cells. -/
theorem wcells_at (l : List Wk) : ∀ (i : Nat) (v : Wk), l[i]? = some v → (wcells l)[3 * i]? = some (.bool v.dead) ∧ (wcells l)[3 * i + 1]? = some (.bool v.has) ∧ (wcells l)[3 * i + 2]? = some (.int .i64 v.task) := by
  induction l with
  | nil => intro i v h; cases h
  | cons x l ih =>
    intro i v h
    cases i with
    | zero => cases h; exact ⟨rfl, rfl, rfl⟩
    | succ i =>
      rw [List.getElem?_cons_succ] at h
      obtain ⟨h1, h2, h3⟩ := ih i v h
      have e : wcells (x :: l) = x.cells ++ wcells l := rfl
      have hl : x.cells.length = 3 := rfl
      rw [e]
      refine ⟨?_, ?_, ?_⟩ <;> rw [List.getElem?_append_right (by omega), hl]
      · rw [show 3 * (i + 1) - 3 = 3 * i from by omega]; exact h1
      · rw [show 3 * (i + 1) + 1 - 3 = 3 * i + 1 from by omega]; exact h2
      · rw [show 3 * (i + 1) + 2 - 3 = 3 * i + 2 from by omega]; exact h3
theorem tcells_at (l : List (Int × Int)) : ∀ (i : Nat) (t : Int × Int), l[i]? = some t → (tcells l)[2 * i]? = some (.int .i64 t.1) ∧ (tcells l)[2 * i + 1]? = some (.int .i64 t.2) := by
  induction l with
  | nil => intro i v h; cases h
  | cons x l ih =>
    intro i v h
    cases i with
    | zero => cases h; exact ⟨rfl, rfl⟩
    | succ i =>
      rw [List.getElem?_cons_succ] at h
      obtain ⟨h1, h2⟩ := ih i v h
      have e : tcells (x :: l) = [.int .i64 x.1, .int .i64 x.2] ++ tcells l := rfl
      rw [e]
      refine ⟨?_, ?_⟩ <;> rw [List.getElem?_append_right (by simp; omega)]
      · rw [show 2 * (i + 1) - [Value.int .i64 x.1, .int .i64 x.2].length = 2 * i from by simp; omega]; exact h1
      · rw [show 2 * (i + 1) + 1 - [Value.int .i64 x.1, .int .i64 x.2].length = 2 * i + 1 from by simp; omega]; exact h2
/-- A worker's cells in memory. -/
theorem PX.wk (h : PX w p mb wv F ks B TV BV AV X R D) {i : Nat} {v : Wk} (hv : D.ws[i]? = some v) : ∃ g c, wv = .slice (some ⟨g, 0, none⟩) D.ws.length c ∧ D.ws.length ≤ c ∧ w.cell? ⟨g, i * 3, none⟩ = some (.bool v.dead) ∧ w.cell? ⟨g, i * 3 + 1, none⟩ = some (.bool v.has) ∧ w.cell? ⟨g, i * 3 + 2, none⟩ = some (.int .i64 v.task) := by
  have hi := (List.getElem?_eq_some_iff.1 hv).1
  have hr := h.row
  obtain ⟨a, c, rfl⟩ := own_isSlice hr
  obtain ⟨h1, h2, h3⟩ := wcells_at D.ws i v hv
  rcases hr.2 with ⟨e, h0⟩ | ⟨g, cap, cur, e, _, hg, hc, _⟩
  · omega
  · injection e with e1 e2 e3
    subst e1 e3
    have hcell := hr.cells (g := g) rfl
    have f : ∀ j u, (wcells D.ws)[j]? = some u → w.cell? ⟨g, j, none⟩ = some u := fun j u hj => by
      have := hcell j u hj
      rwa [show ((⟨g, 0, none⟩ : Addr).add j) = ⟨g, j, none⟩ from by unfold Addr.add; split <;> simp_all] at this
    rw [Nat.mul_comm i 3]
    exact ⟨g, _, rfl, hc, f _ _ h1, f _ _ h2, f _ _ h3⟩
/-- A try's cells in memory. -/
theorem PX.try (h : PX w p mb wv F ks B TV BV AV X R D) {k : Int} {e : En} (hk : D.ts k = some e) {i : Nat} {t : Int × Int} (ht : e.tries[i]? = some t) : ∃ g c, TV k = .slice (some ⟨g, 0, none⟩) e.tries.length c ∧ e.tries.length ≤ c ∧ c ≤ maxLen ∧ w.cell? ⟨g, i * 2, none⟩ = some (.int .i64 t.1) ∧ w.cell? ⟨g, i * 2 + 1, none⟩ = some (.int .i64 t.2) := by
  have hi := (List.getElem?_eq_some_iff.1 ht).1
  have hr := (h.tr k e hk).1
  obtain ⟨a, c, hT⟩ := own_isSlice hr
  rw [hT] at hr ⊢
  obtain ⟨h1, h2⟩ := tcells_at e.tries i t ht
  rcases hr.2 with ⟨e, h0⟩ | ⟨g, cap, cur, e, _, hg, hc, hcm, _⟩
  · omega
  · injection e with e1 e2 e3
    subst e1 e3
    have hcell := hr.cells (g := g) rfl
    have f : ∀ j u, (tcells _)[j]? = some u → w.cell? ⟨g, j, none⟩ = some u := fun j u hj => by
      have := hcell j u hj
      rwa [show ((⟨g, 0, none⟩ : Addr).add j) = ⟨g, j, none⟩ from by unfold Addr.add; split <;> simp_all] at this
    rw [Nat.mul_comm i 2]
    exact ⟨g, _, rfl, hc, hcm, f _ _ h1, f _ _ h2⟩
end
end Go.Proofs.Ytfdacckkdjpjhaa
