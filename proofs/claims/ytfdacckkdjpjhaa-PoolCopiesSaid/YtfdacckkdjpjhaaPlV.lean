/- The law PoolOnce: its lists in memory. -/
import Derived.Test.YtfdacckkdjpjhaaPlU
import Derived.Test.YtfdacckkdjpjhaaPmA
import Derived.Test.YtfdacckkdjpjhaaPmS
namespace Go.Proofs.Ytfdacckkdjpjhaa
open Go.RowKit

theorem Try.infoFr : (Try.prog.info? 80).map (fun i => (i.zero, i.size, i.bytes)) = some (some (.agg #[.int .i64 0, .int .i64 0, .int .i64 0, .int .i64 0]), 4, 32) := by kernel_rfl
theorem Try.elFr : Elem Try.prog 79 80 (.agg #[.int .i64 0, .int .i64 0, .int .i64 0, .int .i64 0]) 4 32 := ⟨Try.underlying79, Try.infoFr, rfl, by decide, by decide⟩
def Tr.exp (lim : Int) (x : Tr) : Int := if x.over = true then 0 else x.tick + lim
def Tr.four (lim : Int) (x : Tr) : List Value := [.int .i64 x.task, .int .i64 x.worker, .int .i64 (x.num : Int), .int .i64 (x.exp lim)]
theorem fourlen (lim : Int) (x : Tr) : (x.four lim).length = 4 := rfl
/-- The law's lists and its pool. -/
structure OncS (w W : World) (p : Nat) (Z : Nat → Prop) (D : Pl) (lim : Int) (tv : Value) (L : List Tr) (ga : Nat) (a : List Int) (ov : Value) (ops : List PV) : Prop where
  pz : PZ W p Z D
  tr : W.ownsRow w.heap.size 80 4 tv L.length (L.flatMap (Tr.four lim))
  an : W.ownsRow w.heap.size 3 1 (.slice (some ⟨ga, 0, none⟩) 16 16) 16 (a.map (Value.int .i64))
  os : W.ownsRow w.heap.size 69 5 ov ops.length (pvcells ops)
  ot : Off tv Z
  oa : ¬ Z ga
  oo : Off ov Z
  bel : Below w.heap.size w W
  zb : ∀ b, Z b → w.heap.size ≤ b
section
variable {w W W' : World} {p ga : Nat} {Z Z' : Nat → Prop} {D D' : Pl} {lim : Int} {tv ov : Value} {L : List Tr} {a : List Int} {ops : List PV}
theorem OncS.step (h : OncS w W p Z D lim tv L ga a ov ops) (P : PZ W' p Z' D') (S : DStep Z Z' W W') : OncS w W' p Z' D' lim tv L ga a ov ops := by
  have ha : Off (.slice (some ⟨ga, 0, none⟩) 16 16) Z := fun b hb hx => by
    obtain rfl : ga = b := Option.some.inj hb
    exact h.oa hx
  exact ⟨P, own_step h.tr S h.ot, own_step h.an S ha, own_step h.os S h.oo, h.ot.step S h.tr, fun hx => ha.step S h.an ga rfl hx, h.oo.step S h.os, h.bel.trans (S.toBelow h.bel.size h.zb), S.ge h.bel.size h.zb⟩
theorem OncS.later (h : OncS w W p Z D lim tv L ga a ov ops) (B : Below W.heap.size W W') : OncS w W' p Z D lim tv L ga a ov ops :=
  ⟨h.pz.later B, own_below h.tr B, own_below h.an B, own_below h.os B, h.ot, h.oa, h.oo, _root_.Go.Proofs.Ytfdacckkdjpjhaa.bel h.bel B, h.zb⟩
theorem OncS.plain (h : OncS w W p Z D lim tv L ga a ov ops) {D' : Pl} (hD : D' = D) : OncS w W p Z D' lim tv L ga a ov ops := by rw [hD]; exact h
/-- The cells of a try. -/
theorem OncS.four (h : OncS w W p Z D lim tv L ga a ov ops) {i : Nat} {x : Tr} (hx : L[i]? = some x) : ∃ g c, tv = .slice (some ⟨g, 0, none⟩) L.length c ∧ L.length ≤ c ∧ W.cell? ⟨g, i * 4, none⟩ = some (.int .i64 x.task) ∧ W.cell? ⟨g, i * 4 + 1, none⟩ = some (.int .i64 x.worker) ∧ W.cell? ⟨g, i * 4 + 2, none⟩ = some (.int .i64 (x.num : Int)) ∧ W.cell? ⟨g, i * 4 + 3, none⟩ = some (.int .i64 (x.exp lim)) := by
  obtain ⟨g, c, hj, hc, _, hcell⟩ := row_at (own_base h.tr (Nat.zero_le _)) (by have := (List.getElem?_eq_some_iff.1 hx).1; omega)
  have hf := fun k => flat_at (Tr.four lim) 4 (fourlen lim) L i k x hx
  exact ⟨g, c, hj, hc, hcell _ _ (hf 0 (by omega)), hcell _ _ (hf 1 (by omega)), hcell _ _ (hf 2 (by omega)), hcell _ _ (hf 3 (by omega))⟩
theorem OncS.ans (h : OncS w W p Z D lim tv L ga a ov ops) {j : Nat} {u : Int} (hu : a[j]? = some u) : W.cell? ⟨ga, j, none⟩ = some (.int .i64 u) := by
  obtain ⟨g, c, hj, hc, _, hcell⟩ := row_at (own_base h.an (Nat.zero_le _)) (by omega)
  injection hj with e1
  injection e1 with e1
  injection e1 with e1
  subst e1
  exact hcell j _ (by rw [List.getElem?_map, hu]; rfl)
theorem OncS.op (h : OncS w W p Z D lim tv L ga a ov ops) {i : Nat} {q : PV} (hq : ops[i]? = some q) : ∃ g c, ov = .slice (some ⟨g, 0, none⟩) ops.length c ∧ ops.length ≤ c ∧ W.cell? ⟨g, i * 5, none⟩ = some (.int .i64 q.o.k) ∧ W.cell? ⟨g, i * 5 + 1, none⟩ = some (.int .i64 q.o.worker) ∧ W.cell? ⟨g, i * 5 + 2, none⟩ = some (.int .i64 q.o.n) ∧ W.cell? ⟨g, i * 5 + 3, none⟩ = some q.bv ∧ W.cell? ⟨g, i * 5 + 4, none⟩ = some (.int .i64 q.o.wait) := by
  obtain ⟨g, c, hj, hc, _, hcell⟩ := row_at (own_base h.os (Nat.zero_le _)) (by have := (List.getElem?_eq_some_iff.1 hq).1; omega)
  have hf := fun k => pvcells_at ops i k q hq
  exact ⟨g, c, hj, hc, hcell _ _ (hf 0 (by omega)), hcell _ _ (hf 1 (by omega)), hcell _ _ (hf 2 (by omega)), hcell _ _ (hf 3 (by omega)), hcell _ _ (hf 4 (by omega))⟩
/-- An answer's number is set. -/
theorem OncS.setA (h : OncS w W p Z D lim tv L ga a ov ops) {j : Nat} (u : Int) : OncS w (W.setCell ⟨ga, j, none⟩ (.int .i64 u)) p Z D lim tv L ga (a.set j u) ov ops := by
  have hg : w.heap.size ≤ ga := (h.an.lt ga rfl).1
  refine ⟨h.pz.set h.oa _, own_same h.tr (fun b hb => Below.heap_setCell _ _ _ _ (fun e => own_types h.tr h.an (by decide) b hb (by rw [show b = ga from e]; rfl))), ?_, own_same h.os (fun b hb => Below.heap_setCell _ _ _ _ (fun e => own_types h.os h.an (by decide) b hb (by rw [show b = ga from e]; rfl))), h.ot, h.oa, h.oo, h.bel.setCell (p := ⟨ga, j, none⟩) hg _, h.zb⟩
  rw [List.map_set]
  exact (h.an.stored j (.int .i64 u)).1
/-- A try is over. -/
theorem OncS.setT (h : OncS w W p Z D lim tv L ga a ov ops) {g n c k : Nat} (hv : tv = .slice (some ⟨g, 0, none⟩) n c) {x : Tr} (hx : L[k]? = some x) : OncS w (W.setCell ⟨g, k * 4 + 3, none⟩ (.int .i64 0)) p Z D lim tv (L.set k { x with over := true }) ga a ov ops := by
  have hb0 : tv.ownBlock = some g := by rw [hv]; rfl
  have hg : w.heap.size ≤ g := (h.tr.lt g hb0).1
  refine ⟨h.pz.set (h.ot g hb0) _, ?_, own_same h.an (fun b hb => Below.heap_setCell _ _ _ _ (fun e => own_types h.an h.tr (by decide) b hb (by rw [show b = g from e]; exact hb0))), own_same h.os (fun b hb => Below.heap_setCell _ _ _ _ (fun e => own_types h.os h.tr (by decide) b hb (by rw [show b = g from e]; exact hb0))), h.ot, h.oa, h.oo, h.bel.setCell (p := ⟨g, k * 4 + 3, none⟩) hg _, h.zb⟩
  rw [List.length_set, ← flat_set (Tr.four lim) 4 (fourlen lim) L k 3 x { x with over := true } (.int .i64 0) hx (by omega) rfl]
  have hr := h.tr
  rw [hv] at hr ⊢
  obtain rfl := own_k hr
  exact (hr.stored (k * 4 + 3) (.int .i64 0)).1
/-- A try is appended. -/
theorem OncS.app (h : OncS w W p Z D lim tv L ga a ov ops) {tv' : Value} {x : Tr} (ho : W'.ownsRow w.heap.size 80 4 tv' (L.length + 1) (L.flatMap (Tr.four lim) ++ x.four lim)) (hg : W.grownBy W' tv.ownBlock) (hs : SameOrNew W tv tv') : OncS w W' p Z D lim tv' (L ++ [x]) ga a ov ops := by
  have k : ∀ b, b < W.heap.size → tv.ownBlock ≠ some b → W'.heap[b]? = W.heap[b]? := fun b hb hn => hg.block b hb (fun e => hn e.symm)
  refine ⟨h.pz.kept hg.size (fun b hb => k b (h.pz.zl b hb) (fun e => h.ot b e hb)), ?_, own_same h.an (fun b hb => k b (h.an.lt b hb).2 (fun e => own_types h.an h.tr (by decide) b hb e)), own_same h.os (fun b hb => k b (h.os.lt b hb).2 (fun e => own_types h.os h.tr (by decide) b hb e)), fun b hb hx => ?_, h.oa, h.oo, h.bel.grown hg h.bel.size (fun g hg' => (h.tr.lt g hg').1), h.zb⟩
  · rw [List.length_append, List.flatMap_append]
    simpa using ho
  · rcases hs with e | hs
    · rw [e] at hb
      exact h.ot b hb hx
    · have := hs b hb
      have := h.pz.zl b hx
      omega
end
theorem mark_set {L : List Tr} {k : Nat} {x : Tr} (t : Int) (hx : L[k]? = some x) (hw : x.worker = t) : ((L.take k).map (Tr.mark t) ++ L.drop k).set k { x with over := true } = (L.take (k + 1)).map (Tr.mark t) ++ L.drop (k + 1) := by
  have hk := (List.getElem?_eq_some_iff.1 hx).1
  have e1 : L.drop k = x :: L.drop (k + 1) := by
    rw [List.drop_eq_getElem_cons hk]
    congr 1
    exact (List.getElem?_eq_some_iff.1 hx).2
  have hl : ((L.take k).map (Tr.mark t)).length = k := by rw [List.length_map, List.length_take]; omega
  rw [e1, List.set_append_right _ _ (by omega), hl, Nat.sub_self, List.set_cons_zero, List.take_add_one, hx, List.map_append]
  have e2 : ({ x with over := true } : Tr) = Tr.mark t x := by unfold Tr.mark; rw [hw]; simp
  rw [e2]
  simp
theorem mark_not {L : List Tr} {k : Nat} {x : Tr} (t : Int) (hx : L[k]? = some x) (hw : ¬ x.worker = t) : ((L.take k).map (Tr.mark t) ++ L.drop k) = (L.take (k + 1)).map (Tr.mark t) ++ L.drop (k + 1) := by
  have hk := (List.getElem?_eq_some_iff.1 hx).1
  have e1 : L.drop k = x :: L.drop (k + 1) := by
    rw [List.drop_eq_getElem_cons hk]
    congr 1
    exact (List.getElem?_eq_some_iff.1 hx).2
  have e2 : Tr.mark t x = x := by unfold Tr.mark; simp [hw]
  rw [e1, List.take_add_one, hx, List.map_append]
  simp [e2]
theorem mark_at {L : List Tr} {k : Nat} {x : Tr} (t : Int) (hx : L[k]? = some x) : ((L.take k).map (Tr.mark t) ++ L.drop k)[k]? = some x := by
  have hk := (List.getElem?_eq_some_iff.1 hx).1
  rw [List.getElem?_append_right (by rw [List.length_map, List.length_take]; omega), List.length_map, List.length_take, List.getElem?_drop]
  rw [show k + (k - min k L.length) = k by omega]
  exact hx
theorem mark_len (L : List Tr) (k : Nat) (t : Int) : ((L.take k).map (Tr.mark t) ++ L.drop k).length = L.length := by
  rw [List.length_append, List.length_map, ← List.length_append, List.take_append_drop]
end Go.Proofs.Ytfdacckkdjpjhaa
