/- Package pool's model: Copy. -/
import Derived.Test.YtfdacckkdjpjhaaPmL
namespace Go.Proofs.Ytfdacckkdjpjhaa
open Go.RowKit

section
variable {w w1 w5 : World} {q : Nat} {av jv tv v5 : Value} {J J' : List JV} {Y R : Nat → Prop} {M : Md}
/-- A row of the model's is appended to, and stored. -/
theorem MX.apA (h : MX w1 q av jv tv J Y R M) (g5 : w1.grownBy w5 av.ownBlock) (s5 : SameOrNew w1 av v5) {l : List Bool} (O5 : w5.ownsRow 0 4 1 v5 l.length (l.map Value.bool)) :
    ∃ Y', MX (w5.setCell ⟨q, 0, none⟩ v5) q v5 jv tv J Y' R { M with alive := l } ∧ DStep Y Y' w1 (w5.setCell ⟨q, 0, none⟩ v5) := by
  have hq1 := h.lt
  have hb5 := (g5.block q hq1 (fun e => absurd rfl (kind_ne (h.ka e.symm) h.kq (by decide)))).trans h.blk
  have hv5 : ∀ b, v5.ownBlock = some b → b ≠ q := fun b hb => s5.elim (fun e => kind_ne (h.ka (e ▸ hb)) h.kq (by decide)) (fun e => by have := e b hb; omega)
  have hg := g5.size
  have S : DStep Y Y w1 (w5.setCell ⟨q, 0, none⟩ v5) := ((DStep.refl Y w1).grown g5 (fun b hb => .inl (h.ya b hb))).set (.inl h.yq) v5
  refine ⟨_, h.turnA (by rw [World.size_setCell]; exact hg) (l := l) ?_ (own_same O5 fun b hb => Below.heap_setCell _ _ _ _ (hv5 b hb)) (fun b hb hn hr => (Below.heap_setCell _ _ _ _ hn).trans (g5.block b hb (fun e => hr e.symm))) s5, S.weak fun b hb => ?_⟩
  · unfold mdO at hb5 ⊢
    simp [World.setCell, Array.getElem?_modify, hb5]
  · rcases hb with hb | hb | hb | hb
    · exact .inl hb
    · exact s5.elim (fun e => .inl (h.ya b (e ▸ hb))) (fun e => .inr (e b hb))
    · exact .inl (h.yj b hb)
    · exact .inl (h.yt b hb)
theorem MX.apT (h : MX w1 q av jv tv J Y R M) (g5 : w1.grownBy w5 tv.ownBlock) (s5 : SameOrNew w1 tv v5) {l : List Tr} (O5 : w5.ownsRow 0 135 5 v5 l.length (trcells l)) :
    ∃ Y', MX (w5.setCell ⟨q, 4, none⟩ v5) q av jv v5 J Y' R { M with tries := l } ∧ DStep Y Y' w1 (w5.setCell ⟨q, 4, none⟩ v5) := by
  have hq1 := h.lt
  have hb5 := (g5.block q hq1 (fun e => absurd rfl (kind_ne (h.kt e.symm) h.kq (by decide)))).trans h.blk
  have hv5 : ∀ b, v5.ownBlock = some b → b ≠ q := fun b hb => s5.elim (fun e => kind_ne (h.kt (e ▸ hb)) h.kq (by decide)) (fun e => by have := e b hb; omega)
  have hg := g5.size
  have S : DStep Y Y w1 (w5.setCell ⟨q, 4, none⟩ v5) := ((DStep.refl Y w1).grown g5 (fun b hb => .inl (h.yt b hb))).set (.inl h.yq) v5
  refine ⟨_, h.turnT (by rw [World.size_setCell]; exact hg) (l := l) ?_ (own_same O5 fun b hb => Below.heap_setCell _ _ _ _ (hv5 b hb)) (fun b hb hn hr => (Below.heap_setCell _ _ _ _ hn).trans (g5.block b hb (fun e => hr e.symm))) s5, S.weak fun b hb => ?_⟩
  · unfold mdO at hb5 ⊢
    simp [World.setCell, Array.getElem?_modify, hb5]
  · rcases hb with hb | hb | hb | hb
    · exact .inl hb
    · exact .inl (h.ya b hb)
    · exact .inl (h.yj b hb)
    · exact s5.elim (fun e => .inl (h.yt b (e ▸ hb))) (fun e => .inr (e b hb))
/-- The first jobs, their bodies among R. -/
theorem MX.apJ (h : MX w1 q av (.slice none 0 0) tv [] Y R M) (g5 : w1.grownBy w5 none) (n5 : ∀ g, v5.ownBlock = some g → w1.heap.size ≤ g) {l : List Jb} (hl : J'.map (·.j) = l) (O5 : w5.ownsRow 0 133 7 v5 J'.length (jcells J'))
    (hJ : ∀ x ∈ J', (Rv w1 x.bv x.j.body.length (x.j.body.map vB) ∧ ∀ b, x.bv.ownBlock = some b → R b) ∧ Rv w1 x.rv x.j.reply.length (x.j.reply.map vB) ∧ ∀ b, x.rv.ownBlock = some b → R b) :
    ∃ Y', MX (w5.setCell ⟨q, 3, none⟩ v5) q av v5 tv J' Y' R { M with jobs := l } ∧ DStep Y Y' w1 (w5.setCell ⟨q, 3, none⟩ v5) := by
  have hq1 := h.lt
  have hb5 := (g5.block q hq1 (fun e => by cases e)).trans h.blk
  have hv5 : ∀ b, v5.ownBlock = some b → b ≠ q := fun b hb => by have := n5 b hb; omega
  have hg := g5.size
  have S : DStep Y Y w1 (w5.setCell ⟨q, 3, none⟩ v5) := ((DStep.refl Y w1).grown g5 (fun b hb => by cases hb)).set (.inl h.yq) v5
  have hk : ∀ b, b < w1.heap.size → b ≠ q → (w5.setCell ⟨q, 3, none⟩ v5).heap[b]? = w1.heap[b]? := fun b hb hn => (Below.heap_setCell _ _ _ _ hn).trans (g5.block b hb (fun e => by cases e))
  have hR : ∀ b, R b → b ≠ q := fun b hb e => h.sep q h.yq (e ▸ hb)
  refine ⟨_, h.turnJ (by rw [World.size_setCell]; exact hg) (l := l) ?_ (own_same O5 fun b hb => Below.heap_setCell _ _ _ _ (hv5 b hb)) hl hk (fun _ h => .inl h) (fun _ h => h) (fun x hx => .inr ?_) n5, S.weak fun b hb => ?_⟩
  · unfold mdO at hb5 ⊢
    simp [World.setCell, Array.getElem?_modify, hb5]
  · obtain ⟨⟨h1, h2⟩, h3, h4⟩ := hJ x hx
    exact ⟨⟨rvSame h1 (fun g hg hv => hk g hg (hR g (h2 g hv))), h2⟩, rvSame h3 (fun g hg hv => hk g hg (hR g (h4 g hv))), h4⟩
  · rcases hb with hb | hb | hb | hb
    · exact .inl hb
    · exact .inl (h.ya b hb)
    · exact .inr (n5 b hb)
    · exact .inl (h.yt b hb)
end
set_option maxRecDepth 20000 in
set_option maxHeartbeats 4000000 in
theorem mcopy_any (w : World) {q : Nat} {Y R : Nat → Prop} {M : Md} (h : MAt w q Y R M) (hl : M.alive.length ≤ 1000000 ∧ M.jobs.length ≤ 1000000 ∧ M.tries.length ≤ 1000000) :
    Calls Try.prog 43 #[.pointer (some ⟨q, 0, none⟩)] w fun e w' => ∃ d Y2, e = .returned (.pointer (some ⟨d, 0, none⟩)) ∧ MAt w' d Y2 R M ∧ (∀ b, Y2 b → w.heap.size ≤ b) ∧ Below w.heap.size w w' := by
  obtain ⟨av, jv, tv, J, h⟩ := h
  have HH := Bx.mk h
  have HL := Bx.mk hl
  have hql := h.lt
  have q1 := h.c1
  have q2 := h.c2
  clear h hl
  go_enter Try.func43, Try.ntmps43
  go_upto_region 1 with fail
  have s0 : w.drew.cell? ⟨q, 1, none⟩ = some (.int .i64 M.tmo) ∧ w.drew.cell? ⟨q, 2, none⟩ = some (.int .i64 M.tick) := ⟨q1, q2⟩
  have B0 := (Below.refl w.heap.size w).drew
  refine wp_region_held_drew (S := fun W => W.cell? ⟨q, 1, none⟩ = some (.int .i64 M.tmo) ∧ W.cell? ⟨q, 2, none⟩ = some (.int .i64 M.tick)) (by kernel_rfl) s0 (fun _ => ?_)
  refine wpAnyH_do 0 4 rfl rfl (by kernel_rfl) (by kernel_rfl) (by kernel_rfl) (fun _ _ _ _ _ h => h) (by kernel_rfl) (fun W hS => by (obtain ⟨s1, s2⟩ := hS); go_simp; try with_reducible rfl) s0 ?_
  simp only [List.setIfInBounds_toArray, List.set_cons_succ, List.set_cons_zero]
  refine wpAnyH_do 1 5 rfl rfl (by kernel_rfl) (by kernel_rfl) (by kernel_rfl) (fun _ _ _ _ _ h => h) (by kernel_rfl) (fun W hS => by (obtain ⟨s1, s2⟩ := hS); go_simp; try with_reducible rfl) s0 ?_
  simp only [List.setIfInBounds_toArray, List.set_cons_succ, List.set_cons_zero]
  refine wpAnyH_do 2 6 rfl rfl (by kernel_rfl) (by kernel_rfl) (by kernel_rfl) (fun _ _ _ _ _ h => h) (by kernel_rfl) (fun W hS => by (obtain ⟨s1, s2⟩ := hS); go_simp; try with_reducible rfl) s0 ?_
  simp only [List.setIfInBounds_toArray, List.set_cons_succ, List.set_cons_zero]
  refine wpAnyH_do 3 7 rfl rfl (by kernel_rfl) (by kernel_rfl) (by kernel_rfl) (fun _ _ _ _ _ h => h) (by kernel_rfl) (fun W hS => by (obtain ⟨s1, s2⟩ := hS); go_simp; try with_reducible rfl) s0 ?_
  simp only [List.setIfInBounds_toArray, List.set_cons_succ, List.set_cons_zero]
  refine wpAnyH_do 4 8 rfl rfl (by kernel_rfl) (by kernel_rfl) (by kernel_rfl) (fun _ _ _ _ _ h => h) (by kernel_rfl) (fun W hS => by (obtain ⟨s1, s2⟩ := hS); go_simp; try with_reducible rfl) s0 ?_
  simp only [List.setIfInBounds_toArray, List.set_cons_succ, List.set_cons_zero]
  refine wpAnyH_do 5 9 rfl rfl (by kernel_rfl) (by kernel_rfl) (by kernel_rfl) (fun _ _ _ _ _ h => h) (by kernel_rfl) (fun W hS => by (obtain ⟨s1, s2⟩ := hS); go_simp; try with_reducible rfl) s0 ?_
  simp only [List.setIfInBounds_toArray, List.set_cons_succ, List.set_cons_zero]
  refine wpAnyH_do 6 10 rfl rfl (by kernel_rfl) (by kernel_rfl) (by kernel_rfl) (fun _ _ _ _ _ h => h) (by kernel_rfl) (fun W hS => by (obtain ⟨s1, s2⟩ := hS); go_simp; try with_reducible rfl) s0 ?_
  simp only [List.setIfInBounds_toArray, List.set_cons_succ, List.set_cons_zero]
  refine wpAnyH_do 7 11 rfl rfl (by kernel_rfl) (by kernel_rfl) (by kernel_rfl) (fun _ _ _ _ _ h => h) (by kernel_rfl) (fun W hS => by (obtain ⟨s1, s2⟩ := hS); go_simp; try with_reducible rfl) s0 ?_
  simp only [List.setIfInBounds_toArray, List.set_cons_succ, List.set_cons_zero]
  refine wpAnyH_do 8 12 rfl rfl (by kernel_rfl) (by kernel_rfl) (by kernel_rfl) (fun _ _ _ _ _ h => h) (by kernel_rfl) (fun W hS => by (obtain ⟨s1, s2⟩ := hS); go_simp; try with_reducible rfl) s0 ?_
  simp only [List.setIfInBounds_toArray, List.set_cons_succ, List.set_cons_zero]
  refine wpAnyH_one 9 rfl (by kernel_rfl) (by kernel_rfl) (fun K hK => ?_)
  go_simp
  have B1 := B0.alloc B0.size (.cells #[.slice none 0 0, .int .i64 M.tmo, .int .i64 M.tick, .slice none 0 0, .slice none 0 0] 130)
  have hb1 := World.alloc_heap_new w.drew (.cells #[.slice none 0 0, .int .i64 M.tmo, .int .i64 M.tick, .slice none 0 0, .slice none 0 0] 130)
  have s1 : (w.drew.alloc (.cells #[.slice none 0 0, .int .i64 M.tmo, .int .i64 M.tick, .slice none 0 0, .slice none 0 0] 130)).cell? ⟨q, 1, none⟩ = some (.int .i64 M.tmo) ∧ (w.drew.alloc (.cells #[.slice none 0 0, .int .i64 M.tmo, .int .i64 M.tick, .slice none 0 0, .slice none 0 0] 130)).cell? ⟨q, 2, none⟩ = some (.int .i64 M.tick) := ⟨(B1.cell (p := ⟨q, 1, none⟩) hql).trans q1, (B1.cell (p := ⟨q, 2, none⟩) hql).trans q2⟩
  refine hK _ _ s1 ?_
  clear hK
  refine wpAnyH_do 10 3 rfl rfl (by kernel_rfl) (by kernel_rfl) (by kernel_rfl) (fun _ _ _ _ _ h => h) (by kernel_rfl) (fun W hS => by (obtain ⟨s1, s2⟩ := hS); go_simp; try with_reducible rfl) s1 ?_
  simp only [List.setIfInBounds_toArray, List.set_cons_succ, List.set_cons_zero]
  refine wpAnyH_done (by kernel_rfl) ?_ _
  have B1' : Below w.heap.size w ((w.alloc (.cells #[.slice none 0 0, .int .i64 M.tmo, .int .i64 M.tick, .slice none 0 0, .slice none 0 0] 130)).drew) := B1
  have hb1' : ((w.alloc (.cells #[.slice none 0 0, .int .i64 M.tmo, .int .i64 M.tick, .slice none 0 0, .slice none 0 0] 130)).drew).heap[w.heap.size]? = some (.cells #[.slice none 0 0, .int .i64 M.tmo, .int .i64 M.tick, .slice none 0 0, .slice none 0 0] 130) := hb1
  clear B1 hb1 s0 s1 B0
  generalize (w.alloc (.cells #[.slice none 0 0, .int .i64 M.tmo, .int .i64 M.tick, .slice none 0 0, .slice none 0 0] 130)).drew = w1 at B1' hb1' ⊢
  have B1 := B1'
  have hb1 := hb1'
  clear B1' hb1'
  obtain ⟨d, hde⟩ : ∃ d, w.heap.size = d := ⟨_, rfl⟩
  have HDE := Bx.mk hde
  rw [hde] at hb1 ⊢
  have hdl : d < w1.heap.size := (Array.getElem?_eq_some_iff.1 hb1).1
  have X1 : MX w1 d (.slice none 0 0) (.slice none 0 0) (.slice none 0 0) [] (fun b => b = d) R ⟨[], M.tmo, M.tick, [], []⟩ :=
    ⟨hb1, World.ownsRow_nil _ _ _ _, World.ownsRow_nil _ _ _ _, World.ownsRow_nil _ _ _ _, rfl, (fun _ h => by cases h), rfl, (fun _ h => by cases h), (fun _ h => by cases h), (fun _ h => by cases h), fun b hb hr => (by have h1 := HH.out.rl b hr; have hb : b = d := hb; omega), (fun b hb => by have hb : b = d := hb; omega), fun b hb => Nat.lt_of_lt_of_le (HH.out.rl b hb) B1.size⟩
  have Q1 := HH.out.later B1
  have HX1 := Bx.mk X1
  have HQ1 := Bx.mk Q1
  have HB1 := Bx.mk (And.intro B1 (show ∀ b, b = d → w.heap.size ≤ b from fun b hb => by rw [hb, ← hde]; exact Nat.le_refl _))
  clear X1 Q1 B1 hb1 q1 q2 hde hdl
  obtain ⟨r1, rc1, hr1⟩ := own_isSlice HQ1.out.al
  have n1l : M.alive.length ≤ 1000000 := HL.out.1
  obtain ⟨n1, hn1⟩ : ∃ n, M.alive.length = n := ⟨_, rfl⟩
  rw [hn1] at hr1 n1l
  have cq := HQ1.out.c0
  have cx := HX1.out.c0
  rw [hr1] at cq
  have HR1 := Bx.mk (And.intro hr1 hn1)
  have RV1 : Rv w1 (.slice r1 n1 rc1) n1 (M.alive.map Value.bool) := by
    have := Rv.of_own HQ1.out.al
    rw [hr1, hn1] at this
    exact this
  have HRV1 := Bx.mk RV1
  clear hr1 hn1 RV1
  go_upto_region 2 with fail
  have s0 : w1.drew.cell? ⟨q, 0, none⟩ = some (.slice r1 n1 rc1) ∧ True := ⟨cq, trivial⟩
  have cx : w1.drew.cell? ⟨d, 0, none⟩ = some (.slice none 0 0) := cx
  refine wp_region_held_drew (S := fun W => W.cell? ⟨q, 0, none⟩ = some (.slice r1 n1 rc1) ∧ True) (by kernel_rfl) s0 (fun _ => ?_)
  refine wpAnyH_do 0 14 rfl rfl (by kernel_rfl) (by kernel_rfl) (by kernel_rfl) (fun _ _ _ _ _ h => h) (by kernel_rfl) (fun W hS => by (obtain ⟨s1, _⟩ := hS); go_simp; try with_reducible rfl) s0 ?_
  simp only [List.setIfInBounds_toArray, List.set_cons_succ, List.set_cons_zero]
  refine wpAnyH_do 1 15 rfl rfl (by kernel_rfl) (by kernel_rfl) (by kernel_rfl) (fun _ _ _ _ _ h => h) (by kernel_rfl) (fun W hS => by (obtain ⟨s1, _⟩ := hS); go_simp; try with_reducible rfl) s0 ?_
  simp only [List.setIfInBounds_toArray, List.set_cons_succ, List.set_cons_zero]
  refine wpAnyH_do 2 16 rfl rfl (by kernel_rfl) (by kernel_rfl) (by kernel_rfl) (fun _ _ _ _ _ h => h) (by kernel_rfl) (fun W hS => by (obtain ⟨s1, _⟩ := hS); go_simp; try with_reducible rfl) s0 ?_
  simp only [List.setIfInBounds_toArray, List.set_cons_succ, List.set_cons_zero]
  refine wpAnyH_do 3 17 rfl rfl (by kernel_rfl) (by kernel_rfl) (by kernel_rfl) (fun _ _ _ _ _ h => h) (by kernel_rfl) (fun W hS => by (obtain ⟨s1, _⟩ := hS); go_simp; try with_reducible rfl) s0 ?_
  simp only [List.setIfInBounds_toArray, List.set_cons_succ, List.set_cons_zero]
  refine wpAnyH_do 5 19 rfl rfl (by kernel_rfl) (by kernel_rfl) (by kernel_rfl) (fun _ _ _ _ _ h => h) (by kernel_rfl) (fun W hS => by (obtain ⟨s1, _⟩ := hS); go_simp; try with_reducible rfl) s0 ?_
  simp only [List.setIfInBounds_toArray, List.set_cons_succ, List.set_cons_zero]
  refine wpAnyH_do 6 20 rfl rfl (by kernel_rfl) (by kernel_rfl) (by kernel_rfl) (fun _ _ _ _ _ h => h) (by kernel_rfl) (fun W hS => by (obtain ⟨s1, _⟩ := hS); go_simp; try with_reducible rfl) s0 ?_
  simp only [List.setIfInBounds_toArray, List.set_cons_succ, List.set_cons_zero]
  refine wpAnyH_do 7 21 rfl rfl (by kernel_rfl) (by kernel_rfl) (by kernel_rfl) (fun _ _ _ _ _ h => h) (by kernel_rfl) (fun W hS => by (obtain ⟨s1, _⟩ := hS); go_simp; try with_reducible rfl) s0 ?_
  simp only [List.setIfInBounds_toArray, List.set_cons_succ, List.set_cons_zero]
  refine wpAnyH_do 8 22 rfl rfl (by kernel_rfl) (by kernel_rfl) (by kernel_rfl) (fun _ _ _ _ _ h => h) (by kernel_rfl) (fun W hS => by (obtain ⟨s1, _⟩ := hS); go_simp; try with_reducible rfl) s0 ?_
  simp only [List.setIfInBounds_toArray, List.set_cons_succ, List.set_cons_zero]
  refine wpAnyH_one 4 rfl (by kernel_rfl) (by kernel_rfl) (fun K hK => ?_)
  go_simp
  refine hK _ _ s0 ?_
  clear hK
  have XD := HX1.out.later ((Below.refl w1.heap.size w1).drew)
  have QD := HQ1.out.later ((Below.refl w1.heap.size w1).drew)
  have BD := HB1.out.1.drew
  have RD : Rv w1.drew (.slice r1 n1 rc1) n1 (M.alive.map Value.bool) := HRV1.out
  have hcl : (M.alive.map Value.bool).length = n1 * 1 := by rw [List.length_map, HR1.out.2]; omega
  have hon : ∀ u ∈ (M.alive.map Value.bool), u.oneCell' = true := fun u hu => by (obtain ⟨b, _, rfl⟩ := List.mem_map.1 hu; rfl)
  generalize w1.drew = v1 at *
  refine wpAnyH_one 9 rfl (by kernel_rfl) (by kernel_rfl) (fun K hK => ?_)
  refine opApp _ _ rfl Try.elBl v1.heap.size (.slice none 0 0) 0 [] rfl (World.ownsRow_nil _ _ _ _) (.slice r1 n1 rc1) n1 _ rfl RD hcl hon (by omega) (Nat.le_refl _) ?_
  intro v5 w5 O5 g5 sn5
  rw [Nat.zero_add, List.nil_append] at O5
  obtain ⟨kv, a5, c5, rfl⟩ := own_shape O5
  obtain ⟨Y5, X5, S5⟩ := XD.apA g5 (.inr fun g hg => (O5.lt g hg).1) (l := M.alive) (by rw [HR1.out.2]; exact own_base O5 (Nat.zero_le _))
  have hdb := (g5.block d XD.lt (fun e => by cases e)).trans XD.blk
  have hqb := (g5.block q QD.lt (fun e => by cases e)).trans QD.blk
  have cq5 : w5.cell? ⟨q, 0, none⟩ = some (.slice r1 n1 rc1) := by
    rw [← s0.1]
    unfold World.cell?
    rw [hqb, QD.blk]
  have fd5 : w5.frozen? ⟨d, 0, none⟩ = false := by unfold mdO at hdb; simp [World.frozen?, hdb]
  have cd5 : w5.cell? ⟨d, 0, none⟩ = some (.slice none 0 0) := by
    rw [← cx]
    unfold World.cell?
    rw [hdb, XD.blk]
  have ld5 := World.block_lt_of_cell? _ _ cd5
  have HX2 := Bx.mk X5
  have Q5 := QD.other S5 (fun b hb hz => by have h1 := HB1.out.2 b hz; have h2 := HH.out.yl b hb; omega) (fun b hb hz => by have h1 := HB1.out.2 b hz; have h2 := HH.out.rl b hb; omega)
  have HQ2 := Bx.mk Q5
  have HB2 := Bx.mk (And.intro (BD.trans (S5.toBelow BD.size HB1.out.2)) (S5.ge BD.size HB1.out.2))
  have s5 : w5.cell? ⟨q, 0, none⟩ = some (.slice r1 n1 rc1) ∧ True := ⟨cq5, trivial⟩
  refine hK _ _ s5 ?_
  clear hK
  simp only [Act.put, List.setIfInBounds_toArray]
  refine wpAnyH_do 10 24 rfl rfl (by kernel_rfl) (by kernel_rfl) (by kernel_rfl) (fun _ _ _ _ _ h => h) (by kernel_rfl) (fun W hS => by (obtain ⟨s1, _⟩ := hS); go_simp; try with_reducible rfl) s5 ?_
  simp only [List.setIfInBounds_toArray, List.set_cons_succ, List.set_cons_zero]
  refine wpAnyH_do 11 25 rfl rfl (by kernel_rfl) (by kernel_rfl) (by kernel_rfl) (fun _ _ _ _ _ h => h) (by kernel_rfl) (fun W hS => by (obtain ⟨s1, _⟩ := hS); go_simp; try with_reducible rfl) s5 ?_
  simp only [List.setIfInBounds_toArray, List.set_cons_succ, List.set_cons_zero]
  have cq6 := Q5.c0
  rw [HR1.out.1] at cq6
  clear X5 S5 Q5 XD QD BD RD hcl hon hdb hqb g5 sn5 O5
  refine wpAnyH_one 12 rfl (by kernel_rfl) (by kernel_rfl) (fun K hK => ?_)
  go_simp
  generalize w5.setCell ⟨d, 0, none⟩ (.slice a5 kv c5) = w2 at *
  refine hK _ _ ⟨cq6, trivial⟩ ?_
  clear hK s0 s5 cq cx cq5 fd5 cd5 ld5 cq6 HX1 HQ1 HB1 HRV1
  refine wpAnyH_done (by kernel_rfl) ?_ _
  obtain ⟨r2, rc2, hr2⟩ := own_isSlice HQ2.out.jo
  have n2l : J.length ≤ 1000000 := by rw [HH.out.len]; exact HL.out.2.1
  obtain ⟨n2, hn2⟩ : ∃ n, J.length = n := ⟨_, rfl⟩
  rw [hn2] at hr2 n2l
  have cq := HQ2.out.c3
  have cx := HX2.out.c3
  rw [hr2] at cq
  have HR2 := Bx.mk (And.intro hr2 hn2)
  have RV2 : Rv w2 (.slice r2 n2 rc2) n2 (jcells J) := by
    have := Rv.of_own HQ2.out.jo
    rw [hr2, hn2] at this
    exact this
  have HRV2 := Bx.mk RV2
  clear hr2 hn2 RV2
  go_upto_region 3 with fail
  have s0 : w2.drew.cell? ⟨q, 3, none⟩ = some (.slice r2 n2 rc2) ∧ True := ⟨cq, trivial⟩
  have cx : w2.drew.cell? ⟨d, 3, none⟩ = some (.slice none 0 0) := cx
  refine wp_region_held_drew (S := fun W => W.cell? ⟨q, 3, none⟩ = some (.slice r2 n2 rc2) ∧ True) (by kernel_rfl) s0 (fun _ => ?_)
  refine wpAnyH_do 0 26 rfl rfl (by kernel_rfl) (by kernel_rfl) (by kernel_rfl) (fun _ _ _ _ _ h => h) (by kernel_rfl) (fun W hS => by (obtain ⟨s1, _⟩ := hS); go_simp; try with_reducible rfl) s0 ?_
  simp only [List.setIfInBounds_toArray, List.set_cons_succ, List.set_cons_zero]
  refine wpAnyH_do 1 27 rfl rfl (by kernel_rfl) (by kernel_rfl) (by kernel_rfl) (fun _ _ _ _ _ h => h) (by kernel_rfl) (fun W hS => by (obtain ⟨s1, _⟩ := hS); go_simp; try with_reducible rfl) s0 ?_
  simp only [List.setIfInBounds_toArray, List.set_cons_succ, List.set_cons_zero]
  refine wpAnyH_do 2 28 rfl rfl (by kernel_rfl) (by kernel_rfl) (by kernel_rfl) (fun _ _ _ _ _ h => h) (by kernel_rfl) (fun W hS => by (obtain ⟨s1, _⟩ := hS); go_simp; try with_reducible rfl) s0 ?_
  simp only [List.setIfInBounds_toArray, List.set_cons_succ, List.set_cons_zero]
  refine wpAnyH_do 3 29 rfl rfl (by kernel_rfl) (by kernel_rfl) (by kernel_rfl) (fun _ _ _ _ _ h => h) (by kernel_rfl) (fun W hS => by (obtain ⟨s1, _⟩ := hS); go_simp; try with_reducible rfl) s0 ?_
  simp only [List.setIfInBounds_toArray, List.set_cons_succ, List.set_cons_zero]
  refine wpAnyH_do 5 31 rfl rfl (by kernel_rfl) (by kernel_rfl) (by kernel_rfl) (fun _ _ _ _ _ h => h) (by kernel_rfl) (fun W hS => by (obtain ⟨s1, _⟩ := hS); go_simp; try with_reducible rfl) s0 ?_
  simp only [List.setIfInBounds_toArray, List.set_cons_succ, List.set_cons_zero]
  refine wpAnyH_do 6 32 rfl rfl (by kernel_rfl) (by kernel_rfl) (by kernel_rfl) (fun _ _ _ _ _ h => h) (by kernel_rfl) (fun W hS => by (obtain ⟨s1, _⟩ := hS); go_simp; try with_reducible rfl) s0 ?_
  simp only [List.setIfInBounds_toArray, List.set_cons_succ, List.set_cons_zero]
  refine wpAnyH_do 7 33 rfl rfl (by kernel_rfl) (by kernel_rfl) (by kernel_rfl) (fun _ _ _ _ _ h => h) (by kernel_rfl) (fun W hS => by (obtain ⟨s1, _⟩ := hS); go_simp; try with_reducible rfl) s0 ?_
  simp only [List.setIfInBounds_toArray, List.set_cons_succ, List.set_cons_zero]
  refine wpAnyH_do 8 34 rfl rfl (by kernel_rfl) (by kernel_rfl) (by kernel_rfl) (fun _ _ _ _ _ h => h) (by kernel_rfl) (fun W hS => by (obtain ⟨s1, _⟩ := hS); go_simp; try with_reducible rfl) s0 ?_
  simp only [List.setIfInBounds_toArray, List.set_cons_succ, List.set_cons_zero]
  refine wpAnyH_one 4 rfl (by kernel_rfl) (by kernel_rfl) (fun K hK => ?_)
  go_simp
  refine hK _ _ s0 ?_
  clear hK
  have XD := HX2.out.later ((Below.refl w2.heap.size w2).drew)
  have QD := HQ2.out.later ((Below.refl w2.heap.size w2).drew)
  have BD := HB2.out.1.drew
  have RD : Rv w2.drew (.slice r2 n2 rc2) n2 (jcells J) := HRV2.out
  have hcl : (jcells J).length = n2 * 7 := by unfold jcells; rw [flat_len JV.cells 7 jlen, HR2.out.2]
  have hon : ∀ u ∈ (jcells J), u.oneCell' = true := ones_flat JV.cells J HH.out.ones
  generalize w2.drew = v2 at *
  refine wpAnyH_one 9 rfl (by kernel_rfl) (by kernel_rfl) (fun K hK => ?_)
  refine opApp _ _ rfl Try.elJb v2.heap.size (.slice none 0 0) 0 [] rfl (World.ownsRow_nil _ _ _ _) (.slice r2 n2 rc2) n2 _ rfl RD hcl hon (by omega) (Nat.le_refl _) ?_
  intro v5 w5 O5 g5 sn5
  rw [Nat.zero_add, List.nil_append] at O5
  obtain ⟨kv, a5, c5, rfl⟩ := own_shape O5
  obtain ⟨Y5, X5, S5⟩ := XD.apJ g5 (fun g hg => (O5.lt g hg).1) (J' := J) (l := M.jobs) HH.out.js (by rw [HR2.out.2]; exact own_base O5 (Nat.zero_le _)) QD.bd
  have hdb := (g5.block d XD.lt (fun e => by cases e)).trans XD.blk
  have hqb := (g5.block q QD.lt (fun e => by cases e)).trans QD.blk
  have cq5 : w5.cell? ⟨q, 3, none⟩ = some (.slice r2 n2 rc2) := by
    rw [← s0.1]
    unfold World.cell?
    rw [hqb, QD.blk]
  have fd5 : w5.frozen? ⟨d, 3, none⟩ = false := by unfold mdO at hdb; simp [World.frozen?, hdb]
  have cd5 : w5.cell? ⟨d, 3, none⟩ = some (.slice none 0 0) := by
    rw [← cx]
    unfold World.cell?
    rw [hdb, XD.blk]
  have ld5 := World.block_lt_of_cell? _ _ cd5
  have HX3 := Bx.mk X5
  have Q5 := QD.other S5 (fun b hb hz => by have h1 := HB2.out.2 b hz; have h2 := HH.out.yl b hb; omega) (fun b hb hz => by have h1 := HB2.out.2 b hz; have h2 := HH.out.rl b hb; omega)
  have HQ3 := Bx.mk Q5
  have HB3 := Bx.mk (And.intro (BD.trans (S5.toBelow BD.size HB2.out.2)) (S5.ge BD.size HB2.out.2))
  have s5 : w5.cell? ⟨q, 3, none⟩ = some (.slice r2 n2 rc2) ∧ True := ⟨cq5, trivial⟩
  refine hK _ _ s5 ?_
  clear hK
  simp only [Act.put, List.setIfInBounds_toArray]
  refine wpAnyH_do 10 36 rfl rfl (by kernel_rfl) (by kernel_rfl) (by kernel_rfl) (fun _ _ _ _ _ h => h) (by kernel_rfl) (fun W hS => by (obtain ⟨s1, _⟩ := hS); go_simp; try with_reducible rfl) s5 ?_
  simp only [List.setIfInBounds_toArray, List.set_cons_succ, List.set_cons_zero]
  refine wpAnyH_do 11 37 rfl rfl (by kernel_rfl) (by kernel_rfl) (by kernel_rfl) (fun _ _ _ _ _ h => h) (by kernel_rfl) (fun W hS => by (obtain ⟨s1, _⟩ := hS); go_simp; try with_reducible rfl) s5 ?_
  simp only [List.setIfInBounds_toArray, List.set_cons_succ, List.set_cons_zero]
  have cq6 := Q5.c3
  rw [HR2.out.1] at cq6
  clear X5 S5 Q5 XD QD BD RD hcl hon hdb hqb g5 sn5 O5
  refine wpAnyH_one 12 rfl (by kernel_rfl) (by kernel_rfl) (fun K hK => ?_)
  go_simp
  generalize w5.setCell ⟨d, 3, none⟩ (.slice a5 kv c5) = w3 at *
  refine hK _ _ ⟨cq6, trivial⟩ ?_
  clear hK s0 s5 cq cx cq5 fd5 cd5 ld5 cq6 HX2 HQ2 HB2 HRV2
  refine wpAnyH_done (by kernel_rfl) ?_ _
  obtain ⟨r3, rc3, hr3⟩ := own_isSlice HQ3.out.tr
  have n3l : M.tries.length ≤ 1000000 := HL.out.2.2
  obtain ⟨n3, hn3⟩ : ∃ n, M.tries.length = n := ⟨_, rfl⟩
  rw [hn3] at hr3 n3l
  have cq := HQ3.out.c4
  have cx := HX3.out.c4
  rw [hr3] at cq
  have HR3 := Bx.mk (And.intro hr3 hn3)
  have RV3 : Rv w3 (.slice r3 n3 rc3) n3 (trcells M.tries) := by
    have := Rv.of_own HQ3.out.tr
    rw [hr3, hn3] at this
    exact this
  have HRV3 := Bx.mk RV3
  clear hr3 hn3 RV3
  go_upto_region 4 with fail
  have s0 : w3.drew.cell? ⟨q, 4, none⟩ = some (.slice r3 n3 rc3) ∧ True := ⟨cq, trivial⟩
  have cx : w3.drew.cell? ⟨d, 4, none⟩ = some (.slice none 0 0) := cx
  refine wp_region_held_drew (S := fun W => W.cell? ⟨q, 4, none⟩ = some (.slice r3 n3 rc3) ∧ True) (by kernel_rfl) s0 (fun _ => ?_)
  refine wpAnyH_do 0 38 rfl rfl (by kernel_rfl) (by kernel_rfl) (by kernel_rfl) (fun _ _ _ _ _ h => h) (by kernel_rfl) (fun W hS => by (obtain ⟨s1, _⟩ := hS); go_simp; try with_reducible rfl) s0 ?_
  simp only [List.setIfInBounds_toArray, List.set_cons_succ, List.set_cons_zero]
  refine wpAnyH_do 1 39 rfl rfl (by kernel_rfl) (by kernel_rfl) (by kernel_rfl) (fun _ _ _ _ _ h => h) (by kernel_rfl) (fun W hS => by (obtain ⟨s1, _⟩ := hS); go_simp; try with_reducible rfl) s0 ?_
  simp only [List.setIfInBounds_toArray, List.set_cons_succ, List.set_cons_zero]
  refine wpAnyH_do 2 40 rfl rfl (by kernel_rfl) (by kernel_rfl) (by kernel_rfl) (fun _ _ _ _ _ h => h) (by kernel_rfl) (fun W hS => by (obtain ⟨s1, _⟩ := hS); go_simp; try with_reducible rfl) s0 ?_
  simp only [List.setIfInBounds_toArray, List.set_cons_succ, List.set_cons_zero]
  refine wpAnyH_do 3 41 rfl rfl (by kernel_rfl) (by kernel_rfl) (by kernel_rfl) (fun _ _ _ _ _ h => h) (by kernel_rfl) (fun W hS => by (obtain ⟨s1, _⟩ := hS); go_simp; try with_reducible rfl) s0 ?_
  simp only [List.setIfInBounds_toArray, List.set_cons_succ, List.set_cons_zero]
  refine wpAnyH_do 5 43 rfl rfl (by kernel_rfl) (by kernel_rfl) (by kernel_rfl) (fun _ _ _ _ _ h => h) (by kernel_rfl) (fun W hS => by (obtain ⟨s1, _⟩ := hS); go_simp; try with_reducible rfl) s0 ?_
  simp only [List.setIfInBounds_toArray, List.set_cons_succ, List.set_cons_zero]
  refine wpAnyH_do 6 44 rfl rfl (by kernel_rfl) (by kernel_rfl) (by kernel_rfl) (fun _ _ _ _ _ h => h) (by kernel_rfl) (fun W hS => by (obtain ⟨s1, _⟩ := hS); go_simp; try with_reducible rfl) s0 ?_
  simp only [List.setIfInBounds_toArray, List.set_cons_succ, List.set_cons_zero]
  refine wpAnyH_do 7 45 rfl rfl (by kernel_rfl) (by kernel_rfl) (by kernel_rfl) (fun _ _ _ _ _ h => h) (by kernel_rfl) (fun W hS => by (obtain ⟨s1, _⟩ := hS); go_simp; try with_reducible rfl) s0 ?_
  simp only [List.setIfInBounds_toArray, List.set_cons_succ, List.set_cons_zero]
  refine wpAnyH_do 8 46 rfl rfl (by kernel_rfl) (by kernel_rfl) (by kernel_rfl) (fun _ _ _ _ _ h => h) (by kernel_rfl) (fun W hS => by (obtain ⟨s1, _⟩ := hS); go_simp; try with_reducible rfl) s0 ?_
  simp only [List.setIfInBounds_toArray, List.set_cons_succ, List.set_cons_zero]
  refine wpAnyH_one 4 rfl (by kernel_rfl) (by kernel_rfl) (fun K hK => ?_)
  go_simp
  refine hK _ _ s0 ?_
  clear hK
  have XD := HX3.out.later ((Below.refl w3.heap.size w3).drew)
  have QD := HQ3.out.later ((Below.refl w3.heap.size w3).drew)
  have BD := HB3.out.1.drew
  have RD : Rv w3.drew (.slice r3 n3 rc3) n3 (trcells M.tries) := HRV3.out
  have hcl : (trcells M.tries).length = n3 * 5 := by unfold trcells; rw [flat_len Tr.cells 5 trlen, HR3.out.2]
  have hon : ∀ u ∈ (trcells M.tries), u.oneCell' = true := ones_flat Tr.cells M.tries (fun x _ u hu => by (simp only [Tr.cells, List.mem_cons, List.not_mem_nil, or_false] at hu; rcases hu with rfl | rfl | rfl | rfl | rfl <;> rfl))
  generalize w3.drew = v3 at *
  refine wpAnyH_one 9 rfl (by kernel_rfl) (by kernel_rfl) (fun K hK => ?_)
  refine opApp _ _ rfl Try.elTr v3.heap.size (.slice none 0 0) 0 [] rfl (World.ownsRow_nil _ _ _ _) (.slice r3 n3 rc3) n3 _ rfl RD hcl hon (by omega) (Nat.le_refl _) ?_
  intro v5 w5 O5 g5 sn5
  rw [Nat.zero_add, List.nil_append] at O5
  obtain ⟨kv, a5, c5, rfl⟩ := own_shape O5
  obtain ⟨Y5, X5, S5⟩ := XD.apT g5 (.inr fun g hg => (O5.lt g hg).1) (l := M.tries) (by rw [HR3.out.2]; exact own_base O5 (Nat.zero_le _))
  have hdb := (g5.block d XD.lt (fun e => by cases e)).trans XD.blk
  have hqb := (g5.block q QD.lt (fun e => by cases e)).trans QD.blk
  have cq5 : w5.cell? ⟨q, 4, none⟩ = some (.slice r3 n3 rc3) := by
    rw [← s0.1]
    unfold World.cell?
    rw [hqb, QD.blk]
  have fd5 : w5.frozen? ⟨d, 4, none⟩ = false := by unfold mdO at hdb; simp [World.frozen?, hdb]
  have cd5 : w5.cell? ⟨d, 4, none⟩ = some (.slice none 0 0) := by
    rw [← cx]
    unfold World.cell?
    rw [hdb, XD.blk]
  have ld5 := World.block_lt_of_cell? _ _ cd5
  have HX4 := Bx.mk X5
  have Q5 := QD.other S5 (fun b hb hz => by have h1 := HB3.out.2 b hz; have h2 := HH.out.yl b hb; omega) (fun b hb hz => by have h1 := HB3.out.2 b hz; have h2 := HH.out.rl b hb; omega)
  have HQ4 := Bx.mk Q5
  have HB4 := Bx.mk (And.intro (BD.trans (S5.toBelow BD.size HB3.out.2)) (S5.ge BD.size HB3.out.2))
  have s5 : w5.cell? ⟨q, 4, none⟩ = some (.slice r3 n3 rc3) ∧ True := ⟨cq5, trivial⟩
  refine hK _ _ s5 ?_
  clear hK
  simp only [Act.put, List.setIfInBounds_toArray]
  refine wpAnyH_do 10 48 rfl rfl (by kernel_rfl) (by kernel_rfl) (by kernel_rfl) (fun _ _ _ _ _ h => h) (by kernel_rfl) (fun W hS => by (obtain ⟨s1, _⟩ := hS); go_simp; try with_reducible rfl) s5 ?_
  simp only [List.setIfInBounds_toArray, List.set_cons_succ, List.set_cons_zero]
  refine wpAnyH_do 11 49 rfl rfl (by kernel_rfl) (by kernel_rfl) (by kernel_rfl) (fun _ _ _ _ _ h => h) (by kernel_rfl) (fun W hS => by (obtain ⟨s1, _⟩ := hS); go_simp; try with_reducible rfl) s5 ?_
  simp only [List.setIfInBounds_toArray, List.set_cons_succ, List.set_cons_zero]
  have cq6 := Q5.c4
  rw [HR3.out.1] at cq6
  clear X5 S5 Q5 XD QD BD RD hcl hon hdb hqb g5 sn5 O5
  refine wpAnyH_one 12 rfl (by kernel_rfl) (by kernel_rfl) (fun K hK => ?_)
  go_simp
  generalize w5.setCell ⟨d, 4, none⟩ (.slice a5 kv c5) = w4 at *
  refine hK _ _ ⟨cq6, trivial⟩ ?_
  clear hK s0 s5 cq cx cq5 fd5 cd5 ld5 cq6 HX3 HQ3 HB3 HRV3
  refine wpAnyH_done (by kernel_rfl) ?_ _
  go_wp2_with fail
  go_ret
  exact ⟨d, rfl, _, ⟨_, _, _, _, HX4.out⟩, HB4.out.2, HB4.out.1⟩
end Go.Proofs.Ytfdacckkdjpjhaa
