/- Package pool: the model in memory. -/
import Derived.Test.YtfdacckkdjpjhaaPlP
namespace Go.Proofs.Ytfdacckkdjpjhaa
open Go.RowKit

structure Jb where
  id : Int
  body : List UInt8
  n : Int
  ansd : Bool
  worker : Int
  tr : Int
  reply : List UInt8
structure Md where
  alive : List Bool
  tmo : Int
  tick : Int
  jobs : List Jb
  tries : List Tr
/-- The job of a task. -/
def jbOf (D : Pl) (k : Int) : Jb := match D.ts k with
  | none => ⟨k, [], 0, false, 0, 0, []⟩
  | some e => ⟨k, e.body, (e.tries.length : Int), e.done, e.ans.worker, e.ans.tr, e.ans.body⟩
/-- The model of a pool. -/
def mdOf (D : Pl) (L : List Tr) : Md := ⟨D.ws.map (fun v => !v.dead), D.timeout, D.tick, D.ids.map (jbOf D), L⟩
/-- A job and where its slices lie. -/
structure JV where
  j : Jb
  bv : Value
  rv : Value
def JV.cells (x : JV) : List Value := [.int .i64 x.j.id, x.bv, .int .i64 x.j.n, .bool x.j.ansd, .int .i64 x.j.worker, .int .i64 x.j.tr, x.rv]
def jcells (l : List JV) : List Value := l.flatMap JV.cells
def Tr.cells (x : Tr) : List Value := [.int .i64 x.task, .int .i64 (x.num : Int), .int .i64 x.worker, .int .i64 x.tick, .bool x.over]
def trcells (l : List Tr) : List Value := l.flatMap Tr.cells
theorem flat_len {α : Type} (f : α → List Value) (n : Nat) (hf : ∀ x, (f x).length = n) : ∀ l : List α, (l.flatMap f).length = l.length * n
  | [] => by simp
  | x :: l => by rw [List.flatMap_cons, List.length_append, hf, flat_len f n hf l, List.length_cons, Nat.succ_mul]; omega
theorem flat_at {α : Type} (f : α → List Value) (n : Nat) (hf : ∀ x, (f x).length = n) : ∀ (l : List α) (i j : Nat) (x : α), l[i]? = some x → j < n → (l.flatMap f)[i * n + j]? = (f x)[j]?
  | [], _, _, _, h, _ => by cases h
  | y :: l, 0, j, x, h, hj => by
    cases h
    rw [List.flatMap_cons, List.getElem?_append_left (by rw [hf]; omega)]
    congr 1
    omega
  | y :: l, i + 1, j, x, h, hj => by
    rw [List.flatMap_cons, List.getElem?_append_right (by rw [hf, Nat.succ_mul]; omega), hf, ← flat_at f n hf l i j x (by simpa using h) hj]
    congr 1
    rw [Nat.succ_mul]
    omega
theorem flat_set {α : Type} (f : α → List Value) (n : Nat) (hf : ∀ x, (f x).length = n) : ∀ (l : List α) (i j : Nat) (x x' : α) (u : Value), l[i]? = some x → j < n → (f x).set j u = f x' → (l.flatMap f).set (i * n + j) u = (l.set i x').flatMap f
  | [], _, _, _, _, _, h, _, _ => by cases h
  | y :: l, 0, j, x, x', u, h, hj, he => by
    cases h
    rw [List.flatMap_cons, List.set_append_left _ _ (by rw [hf]; omega), List.set_cons_zero, List.flatMap_cons, ← he]
    congr 2
    omega
  | y :: l, i + 1, j, x, x', u, h, hj, he => by
    rw [List.flatMap_cons, List.set_append_right _ _ (by rw [hf, Nat.succ_mul]; omega), hf, List.set_cons_succ, List.flatMap_cons, ← flat_set f n hf l i j x x' u (by simpa using h) hj he]
    congr 2
    rw [Nat.succ_mul]
    omega
theorem jlen (x : JV) : x.cells.length = 7 := rfl
theorem trlen (x : Tr) : x.cells.length = 5 := rfl
def mdO (M : Md) (av jv tv : Value) : Obj := .cells #[av, .int .i64 M.tmo, .int .i64 M.tick, jv, tv] 130 (0, 0)
/-- The model M in block q; its rows av, jv, tv; its jobs J. Y: what is written; R: the bodies. -/
structure MX (w : World) (q : Nat) (av jv tv : Value) (J : List JV) (Y R : Nat → Prop) (M : Md) : Prop where
  blk : w.heap[q]? = some (mdO M av jv tv)
  al : w.ownsRow 0 4 1 av M.alive.length (M.alive.map Value.bool)
  jo : w.ownsRow 0 133 7 jv J.length (jcells J)
  tr : w.ownsRow 0 135 5 tv M.tries.length (trcells M.tries)
  js : J.map (·.j) = M.jobs
  bd : ∀ x ∈ J, (Rv w x.bv x.j.body.length (x.j.body.map vB) ∧ ∀ b, x.bv.ownBlock = some b → R b) ∧ Rv w x.rv x.j.reply.length (x.j.reply.map vB) ∧ ∀ b, x.rv.ownBlock = some b → R b
  yq : Y q
  ya : ∀ b, av.ownBlock = some b → Y b
  yj : ∀ b, jv.ownBlock = some b → Y b
  yt : ∀ b, tv.ownBlock = some b → Y b
  sep : ∀ b, Y b → ¬ R b
  yl : ∀ b, Y b → b < w.heap.size
  rl : ∀ b, R b → b < w.heap.size
def MAt (w : World) (q : Nat) (Y R : Nat → Prop) (M : Md) : Prop := ∃ av jv tv J, MX w q av jv tv J Y R M
section
variable {w w' : World} {q : Nat} {av jv tv : Value} {J : List JV} {Y R Z X' : Nat → Prop} {M : Md}
theorem MX.lt (h : MX w q av jv tv J Y R M) : q < w.heap.size := h.yl q h.yq
theorem MX.c0 (h : MX w q av jv tv J Y R M) : w.cell? ⟨q, 0, none⟩ = some av := by have := h.blk; unfold mdO at this; simp [World.cell?, this]
theorem MX.c1 (h : MX w q av jv tv J Y R M) : w.cell? ⟨q, 1, none⟩ = some (.int .i64 M.tmo) := by have := h.blk; unfold mdO at this; simp [World.cell?, this]
theorem MX.c2 (h : MX w q av jv tv J Y R M) : w.cell? ⟨q, 2, none⟩ = some (.int .i64 M.tick) := by have := h.blk; unfold mdO at this; simp [World.cell?, this]
theorem MX.c3 (h : MX w q av jv tv J Y R M) : w.cell? ⟨q, 3, none⟩ = some jv := by have := h.blk; unfold mdO at this; simp [World.cell?, this]
theorem MX.c4 (h : MX w q av jv tv J Y R M) : w.cell? ⟨q, 4, none⟩ = some tv := by have := h.blk; unfold mdO at this; simp [World.cell?, this]
theorem MX.fz (h : MX w q av jv tv J Y R M) (j : Nat) : w.frozen? ⟨q, j, none⟩ = false := by have := h.blk; unfold mdO at this; simp [World.frozen?, this]
theorem MX.kept (h : MX w q av jv tv J Y R M) (hs : w.heap.size ≤ w'.heap.size) (hY : ∀ b, Y b → w'.heap[b]? = w.heap[b]?) (hR : ∀ b, R b → w'.heap[b]? = w.heap[b]?) : MX w' q av jv tv J Y R M :=
  ⟨(hY q h.yq).trans h.blk, own_same h.al (fun b hb => hY b (h.ya b hb)), own_same h.jo (fun b hb => hY b (h.yj b hb)), own_same h.tr (fun b hb => hY b (h.yt b hb)), h.js,
    fun x hx => ⟨⟨rvSame (h.bd x hx).1.1 (fun g _ hg => hR g ((h.bd x hx).1.2 g hg)), (h.bd x hx).1.2⟩, rvSame (h.bd x hx).2.1 (fun g _ hg => hR g ((h.bd x hx).2.2 g hg)), (h.bd x hx).2.2⟩,
    h.yq, h.ya, h.yj, h.yt, h.sep, fun b hb => Nat.lt_of_lt_of_le (h.yl b hb) hs, fun b hb => Nat.lt_of_lt_of_le (h.rl b hb) hs⟩
theorem MX.later (h : MX w q av jv tv J Y R M) (b : Below w.heap.size w w') : MX w' q av jv tv J Y R M := h.kept b.size (fun x hx => b.block x (h.yl x hx)) (fun x hx => b.block x (h.rl x hx))
theorem MX.other (h : MX w q av jv tv J Y R M) (S : DStep Z X' w w') (hY : ∀ b, Y b → ¬ Z b) (hR : ∀ b, R b → ¬ Z b) : MX w' q av jv tv J Y R M := h.kept S.size (fun x hx => S.block x (h.yl x hx) (hY x hx)) (fun x hx => S.block x (h.rl x hx) (hR x hx))
theorem MAt.later (h : MAt w q Y R M) (b : Below w.heap.size w w') : MAt w' q Y R M := by obtain ⟨_, _, _, _, h⟩ := h; exact ⟨_, _, _, _, h.later b⟩
theorem MAt.other (h : MAt w q Y R M) (S : DStep Z X' w w') (hY : ∀ b, Y b → ¬ Z b) (hR : ∀ b, R b → ¬ Z b) : MAt w' q Y R M := by obtain ⟨_, _, _, _, h⟩ := h; exact ⟨_, _, _, _, h.other S hY hR⟩
theorem MAt.yl (h : MAt w q Y R M) : ∀ b, Y b → b < w.heap.size := by obtain ⟨_, _, _, _, h⟩ := h; exact h.yl
theorem MAt.rl (h : MAt w q Y R M) : ∀ b, R b → b < w.heap.size := by obtain ⟨_, _, _, _, h⟩ := h; exact h.rl
theorem MX.len (h : MX w q av jv tv J Y R M) : J.length = M.jobs.length := by rw [← h.js, List.length_map]
/-- A row's slice, and its cells. -/
theorem row_at {w : World} {e : TypeId} {size n : Nat} {v : Value} {xs : List Value} (h : w.ownsRow 0 e size v n xs) (hn : 0 < n) : ∃ g c, v = .slice (some ⟨g, 0, none⟩) n c ∧ n ≤ c ∧ c ≤ maxLen ∧ ∀ j u, xs[j]? = some u → w.cell? ⟨g, j, none⟩ = some u := by
  rcases h.2 with ⟨e, h0⟩ | ⟨g, cap, cur, e, _, hg, hc, hcm, _⟩
  · omega
  · subst e
    have hcell := h.cells (g := g) rfl
    exact ⟨g, _, rfl, hc, hcm, fun j u hj => by
      have := hcell j u hj
      rwa [show ((⟨g, 0, none⟩ : Addr).add j) = ⟨g, j, none⟩ from by unfold Addr.add; split <;> simp_all] at this⟩
theorem MX.job (h : MX w q av jv tv J Y R M) {i : Nat} {x : JV} (hx : J[i]? = some x) : ∃ g c, jv = .slice (some ⟨g, 0, none⟩) J.length c ∧ J.length ≤ c ∧ c ≤ maxLen ∧ w.cell? ⟨g, i * 7, none⟩ = some (.int .i64 x.j.id) ∧ w.cell? ⟨g, i * 7 + 1, none⟩ = some x.bv ∧ w.cell? ⟨g, i * 7 + 2, none⟩ = some (.int .i64 x.j.n) ∧
    w.cell? ⟨g, i * 7 + 3, none⟩ = some (.bool x.j.ansd) ∧ w.cell? ⟨g, i * 7 + 4, none⟩ = some (.int .i64 x.j.worker) ∧ w.cell? ⟨g, i * 7 + 5, none⟩ = some (.int .i64 x.j.tr) ∧ w.cell? ⟨g, i * 7 + 6, none⟩ = some x.rv := by
  obtain ⟨g, c, hj, hc, hm, hcell⟩ := row_at h.jo (by have := (List.getElem?_eq_some_iff.1 hx).1; omega)
  have hf := fun k => flat_at JV.cells 7 jlen J i k x hx
  exact ⟨g, c, hj, hc, hm, hcell _ _ (hf 0 (by omega)), hcell _ _ (hf 1 (by omega)), hcell _ _ (hf 2 (by omega)), hcell _ _ (hf 3 (by omega)), hcell _ _ (hf 4 (by omega)), hcell _ _ (hf 5 (by omega)), hcell _ _ (hf 6 (by omega))⟩
theorem MX.try (h : MX w q av jv tv J Y R M) {i : Nat} {x : Tr} (hx : M.tries[i]? = some x) : ∃ g c, tv = .slice (some ⟨g, 0, none⟩) M.tries.length c ∧ M.tries.length ≤ c ∧ c ≤ maxLen ∧ w.cell? ⟨g, i * 5, none⟩ = some (.int .i64 x.task) ∧ w.cell? ⟨g, i * 5 + 1, none⟩ = some (.int .i64 (x.num : Int)) ∧ w.cell? ⟨g, i * 5 + 2, none⟩ = some (.int .i64 x.worker) ∧
    w.cell? ⟨g, i * 5 + 3, none⟩ = some (.int .i64 x.tick) ∧ w.cell? ⟨g, i * 5 + 4, none⟩ = some (.bool x.over) := by
  obtain ⟨g, c, hj, hc, hm, hcell⟩ := row_at h.tr (by have := (List.getElem?_eq_some_iff.1 hx).1; omega)
  have hf := fun k => flat_at Tr.cells 5 trlen M.tries i k x hx
  exact ⟨g, c, hj, hc, hm, hcell _ _ (hf 0 (by omega)), hcell _ _ (hf 1 (by omega)), hcell _ _ (hf 2 (by omega)), hcell _ _ (hf 3 (by omega)), hcell _ _ (hf 4 (by omega))⟩
theorem MX.live (h : MX w q av jv tv J Y R M) {i : Nat} {b : Bool} (hx : M.alive[i]? = some b) : ∃ g c, av = .slice (some ⟨g, 0, none⟩) M.alive.length c ∧ M.alive.length ≤ c ∧ w.cell? ⟨g, i, none⟩ = some (.bool b) := by
  obtain ⟨g, c, hj, hc, hm, hcell⟩ := row_at h.al (by have := (List.getElem?_eq_some_iff.1 hx).1; omega)
  exact ⟨g, c, hj, hc, hcell _ _ (by rw [List.getElem?_map, hx]; rfl)⟩
end
end Go.Proofs.Ytfdacckkdjpjhaa
