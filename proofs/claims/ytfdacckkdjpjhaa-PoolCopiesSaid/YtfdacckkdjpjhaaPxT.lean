/- Package pool and its model, the pool's bodies among what is only read: a law's step. -/
import Derived.Test.YtfdacckkdjpjhaaPxO
namespace Go.Proofs.Ytfdacckkdjpjhaa
open Go.RowKit

theorem Grw.base {W W' : World} {O O' : Nat → Prop} (g : Grw W' O O') (hs : W.heap.size ≤ W'.heap.size) : Grw W O O' := ⟨g.old, fun b hb => (g.new b hb).imp (fun h => h) (fun e => Nat.le_trans hs e)⟩
theorem ask_is (D : Pl) (x t : Int) (h : (D.ask x t).1.is = true) : ∃ e, (D.ask x t).2.ts (D.ask x t).1.id = some e ∧ e.body = (D.ask x t).1.body := by
  obtain ⟨O, hO⟩ : ∃ O, D.ask x t = O := ⟨_, rfl⟩
  rw [hO] at h ⊢
  unfold Pl.ask at hO
  split at hO
  · subst hO; cases h
  · split at hO
    · subst hO; cases h
    · split at hO
      · subst hO; cases h
      · split at hO
        · subst hO; cases h
        · split at hO
          · subst hO; cases h
          · rename_i k e hp
            subst hO
            exact ⟨_, if_pos rfl, rfl⟩
section
variable {p q n : Nat} {Z Y O : Nat → Prop} {D : Pl} {L : List Tr}
set_option maxRecDepth 20000 in
set_option maxHeartbeats 4000000 in
theorem stepx_any (x : PV) (w : World) (T : TwX w p Z D q Y (mdOf D L) O) (s : Sim n D L) (hn : n ≤ 100000) (hx : PoOk x.o) (hrd : Rv w x.bv x.o.b.length (x.o.b.map vB)) (hbo : ∀ g, x.bv.ownBlock = some g → O g) :
    Calls Try.prog 33 #[.pointer (some ⟨p, 0, none⟩), .pointer (some ⟨q, 0, none⟩), .agg #[.int .i64 x.o.k, .int .i64 x.o.worker, .int .i64 x.o.n, x.bv, .int .i64 x.o.wait]] w (StepPostX n w p Z q Y O) := by
  have ok := T.ok
  have B1 := (Below.refl w.heap.size w).alloc (Nat.le_refl _) (.cells x.cells.toArray 69)
  have H1 : StX (w.alloc (.cells x.cells.toArray 69)) p Z D q Y (mdOf D L) O w.heap.size x :=
    ⟨T.later B1, World.alloc_heap_new w _, fun hz => by have := T.xl _ hz; omega, fun hy => by have := T.yl _ hy; omega, hrd.below B1, hbo⟩
  have htk := ok.tck
  have HOK := Bx.mk ok
  have HX := Bx.mk hx
  have HS := Bx.mk s
  have hx' := hx
  obtain ⟨⟨k0, k4⟩, hw, hnn, hn0, hn1, hbl, hwt⟩ := hx
  have hblm : x.o.b.length ≤ 1000000000 := by omega
  obtain ⟨R, hm, _⟩ := H1.two.md
  obtain ⟨_, _, _, _, hmx⟩ := hm
  have m2 := hmx.c2
  have c0 := H1.c 0 _ rfl
  have c1 := H1.c 1 _ rfl
  have c2 := H1.c 2 _ rfl
  have c3 := H1.c 3 _ rfl
  have c4 := H1.c 4 _ rfl
  have hal : w.alloc (.cells x.cells.toArray 69) = w.alloc (.cells #[.int .i64 x.o.k, .int .i64 x.o.worker, .int .i64 x.o.n, x.bv, .int .i64 x.o.wait] 69) := rfl
  rw [hal] at B1 H1 m2 c0 c1 c2 c3 c4
  have m2 : (w.alloc (.cells #[.int .i64 x.o.k, .int .i64 x.o.worker, .int .i64 x.o.n, x.bv, .int .i64 x.o.wait] 69)).cell? ⟨q, 2, none⟩ = some (.int .i64 D.tick) := m2
  obtain ⟨tk, htke⟩ : ∃ t, D.tick = t := ⟨_, rfl⟩
  rw [htke] at m2 htk
  have hw7 : IntKind.i64.wrap (tk + x.o.wait) = tk + x.o.wait := by rw [IntKind.wrap_i64]; omega
  obtain ⟨kd, hkd⟩ : ∃ a, x.o.k = a := ⟨_, rfl⟩
  obtain ⟨wk, hwk⟩ : ∃ a, x.o.worker = a := ⟨_, rfl⟩
  obtain ⟨nn, hnne⟩ : ∃ a, x.o.n = a := ⟨_, rfl⟩
  obtain ⟨wt, hwte⟩ : ∃ a, x.o.wait = a := ⟨_, rfl⟩
  obtain ⟨ba, bc, hbv⟩ : ∃ a c, x.bv = .slice a x.o.b.length c := by obtain ⟨a, c, e, _⟩ := hrd.opened; exact ⟨a, c, e⟩
  have HBV := Bx.mk hbv
  obtain ⟨bl, hble⟩ : ∃ n, x.o.b.length = n := ⟨_, rfl⟩
  rw [hble] at hbv
  have HKD := Bx.mk hkd
  have HWK := Bx.mk hwk
  have HNN := Bx.mk hnne
  have HBV := Bx.mk hbv
  rw [hkd] at c0 k0 k4 hn0 hn1 B1 H1 m2 c1 c2 c3 c4 ⊢
  rw [hwk] at c1 hw B1 H1 m2 c0 c2 c3 c4 ⊢
  rw [hnne] at c2 hnn hn0 hn1 B1 H1 m2 c0 c1 c3 c4 ⊢
  rw [hwte] at c4 hwt hw7 B1 H1 m2 c0 c1 c2 c3 ⊢
  have HTK := Bx.mk htke
  rw [hbv] at B1 H1 m2 c0 c1 c2 c3 c4 ⊢
  clear hkd hbv hwk hnne hwte htke T ok s hrd hbo hx' hal hmx
  go_enter Try.func33, Try.ntmps33
  go_upto_region 1 with fail
  generalize w.alloc (.cells #[.int .i64 kd, .int .i64 wk, .int .i64 nn, .slice ba bl bc, .int .i64 wt] 69) = w1 at *
  obtain ⟨ob, hob⟩ : ∃ b, w.heap.size = b := ⟨_, rfl⟩
  rw [hob] at H1 c0 c1 c2 c3 c4 ⊢
  have HH1 := Bx.mk H1
  have S1 := Bx.mk (DStep.ofBelow (fun b => Z b ∨ Y b) B1)
  clear H1 B1 hob
  go_quiet (fail)
  have H2 := HH1.out.later (belD (Below.refl _ _) nq)
  have S2 := S1.out.trans (DStep.ofBelow (fun b => Z b ∨ Y b) (belD (Below.refl w1.heap.size w1) nq))
  have c0 := H2.c 0 _ rfl
  rw [HKD.out] at c0
  generalize w1.drewN nq = w2 at *
  obtain ⟨t, ht⟩ : ∃ t, tk + wt = t := ⟨_, rfl⟩
  have HT := Bx.mk ht
  rw [ht]
  have HH2 := Bx.mk H2
  have HS2 := Bx.mk S2
  clear H2 S2 m2 c1 c2 c3 c4 hw7 HH1 S1 ht
  rcases (show kd = 0 ∨ kd = 1 ∨ kd = 2 ∨ kd = 3 ∨ kd = 4 by omega) with rfl | rfl | rfl | rfl | rfl
  · -- Adds
    have c2 := HH2.out.c 2 _ rfl
    have c3 := HH2.out.c 3 _ rfl
    rw [HNN.out] at c2
    rw [HBV.out] at c3
    go_upto_region 4 with fail
    have BD := (Below.refl w2.heap.size w2).drew
    have H3 := HH2.out.later BD
    have S3 := HS2.out.trans (DStep.ofBelow _ BD)
    have c2 := H3.c 2 _ rfl
    have c3 := H3.c 3 _ rfl
    rw [HNN.out] at c2
    rw [HBV.out] at c3
    have s0 := And.intro c2 c3
    refine wp_region_held_drew (S := fun W => W.cell? ⟨ob, 2, none⟩ = some (.int .i64 nn) ∧ W.cell? ⟨ob, 3, none⟩ = some (.slice ba bl bc)) (by kernel_rfl) s0 (fun _ => ?_)
    refine wpAnyH_do 0 36 rfl rfl (by kernel_rfl) (by kernel_rfl) (by kernel_rfl) (fun _ _ _ _ _ h => h) (by kernel_rfl) (fun W hS => by (obtain ⟨s1, s2⟩ := hS); go_simp; try with_reducible rfl) s0 ?_
    simp only [List.setIfInBounds_toArray, List.set_cons_succ, List.set_cons_zero]
    refine wpAnyH_do 1 37 rfl rfl (by kernel_rfl) (by kernel_rfl) (by kernel_rfl) (fun _ _ _ _ _ h => h) (by kernel_rfl) (fun W hS => by (obtain ⟨s1, s2⟩ := hS); go_simp; try with_reducible rfl) s0 ?_
    simp only [List.setIfInBounds_toArray, List.set_cons_succ, List.set_cons_zero]
    refine wpAnyH_do 2 38 rfl rfl (by kernel_rfl) (by kernel_rfl) (by kernel_rfl) (fun _ _ _ _ _ h => h) (by kernel_rfl) (fun W hS => by (obtain ⟨s1, s2⟩ := hS); go_simp; try with_reducible rfl) s0 ?_
    simp only [List.setIfInBounds_toArray, List.set_cons_succ, List.set_cons_zero]
    refine wpAnyH_do 3 39 rfl rfl (by kernel_rfl) (by kernel_rfl) (by kernel_rfl) (fun _ _ _ _ _ h => h) (by kernel_rfl) (fun W hS => by (obtain ⟨s1, s2⟩ := hS); go_simp; try with_reducible rfl) s0 ?_
    simp only [List.setIfInBounds_toArray, List.set_cons_succ, List.set_cons_zero]
    refine wpAnyH_do 4 40 rfl rfl (by kernel_rfl) (by kernel_rfl) (by kernel_rfl) (fun _ _ _ _ _ h => h) (by kernel_rfl) (fun W hS => by (obtain ⟨s1, s2⟩ := hS); go_simp; try with_reducible rfl) s0 ?_
    simp only [List.setIfInBounds_toArray, List.set_cons_succ, List.set_cons_zero]
    refine wpAnyH_do 5 41 rfl rfl (by kernel_rfl) (by kernel_rfl) (by kernel_rfl) (fun _ _ _ _ _ h => h) (by kernel_rfl) (fun W hS => by (obtain ⟨s1, s2⟩ := hS); go_simp; try with_reducible rfl) s0 ?_
    simp only [List.setIfInBounds_toArray, List.set_cons_succ, List.set_cons_zero]
    refine wpAnyH_do 7 43 rfl rfl (by kernel_rfl) (by kernel_rfl) (by kernel_rfl) (fun _ _ _ _ _ h => h) (by kernel_rfl) (fun W hS => by (obtain ⟨s1, s2⟩ := hS); go_simp; try with_reducible rfl) s0 ?_
    simp only [List.setIfInBounds_toArray, List.set_cons_succ, List.set_cons_zero]
    refine wpAnyH_do 8 44 rfl rfl (by kernel_rfl) (by kernel_rfl) (by kernel_rfl) (fun _ _ _ _ _ h => h) (by kernel_rfl) (fun W hS => by (obtain ⟨s1, s2⟩ := hS); go_simp; try with_reducible rfl) s0 ?_
    simp only [List.setIfInBounds_toArray, List.set_cons_succ, List.set_cons_zero]
    refine wpAnyH_do 9 45 rfl rfl (by kernel_rfl) (by kernel_rfl) (by kernel_rfl) (fun _ _ _ _ _ h => h) (by kernel_rfl) (fun W hS => by (obtain ⟨s1, s2⟩ := hS); go_simp; try with_reducible rfl) s0 ?_
    simp only [List.setIfInBounds_toArray, List.set_cons_succ, List.set_cons_zero]
    refine wpAnyH_do 10 46 rfl rfl (by kernel_rfl) (by kernel_rfl) (by kernel_rfl) (fun _ _ _ _ _ h => h) (by kernel_rfl) (fun W hS => by (obtain ⟨s1, s2⟩ := hS); go_simp; try with_reducible rfl) s0 ?_
    simp only [List.setIfInBounds_toArray, List.set_cons_succ, List.set_cons_zero]
    refine wpAnyH_do 11 47 rfl rfl (by kernel_rfl) (by kernel_rfl) (by kernel_rfl) (fun _ _ _ _ _ h => h) (by kernel_rfl) (fun W hS => by (obtain ⟨s1, s2⟩ := hS); go_simp; try with_reducible rfl) s0 ?_
    simp only [List.setIfInBounds_toArray, List.set_cons_succ, List.set_cons_zero]
    refine wpAnyH_one 6 rfl (by kernel_rfl) (by kernel_rfl) (fun K hK => ?_)
    go_simp
    have HA := stx_add nn w2.drew H3 (by omega) hblm
    rw [HBV.out] at HA
    refine HA.mono ?_
    rintro e w3 ⟨rfl, Z3, O3, G3, H4, S4⟩
    have c2 := H4.c 2 _ rfl
    have c3 := H4.c 3 _ rfl
    rw [HNN.out] at c2
    rw [HBV.out] at c3
    refine hK _ _ (And.intro c2 c3) ?_
    clear hK
    refine wpAnyH_one 12 rfl (by kernel_rfl) (by kernel_rfl) (fun K hK => ?_)
    go_simp
    have HM := stx_madd nn w3 H4 HOK.out hblm
    rw [HBV.out] at HM
    refine HM.mono ?_
    rintro e w4 ⟨rfl, Y4, H5, S5⟩
    have c2 := H5.c 2 _ rfl
    have c3 := H5.c 3 _ rfl
    rw [HNN.out] at c2
    rw [HBV.out] at c3
    have s1 := And.intro c2 c3
    refine hK _ _ s1 ?_
    clear hK
    refine wpAnyH_do 13 49 rfl rfl (by kernel_rfl) (by kernel_rfl) (by kernel_rfl) (fun _ _ _ _ _ h => h) (by kernel_rfl) (fun W hS => by (obtain ⟨s1, s2⟩ := hS); go_simp; try with_reducible rfl) s1 ?_
    simp only [List.setIfInBounds_toArray, List.set_cons_succ, List.set_cons_zero]
    refine wpAnyH_do 14 6 rfl rfl (by kernel_rfl) (by kernel_rfl) (by kernel_rfl) (fun _ _ _ _ _ h => h) (by kernel_rfl) (fun W hS => by (obtain ⟨s1, s2⟩ := hS); go_simp; try with_reducible rfl) s1 ?_
    simp only [List.setIfInBounds_toArray, List.set_cons_succ, List.set_cons_zero]
    refine wpAnyH_done (by kernel_rfl) ?_ _
    go_wp2_with fail
    go_ret
    exact ⟨rfl, Z3, Y4, _, L, O3, G3.base S3.size, H5.two, (HS.out.add nn x.o.b).mono (Nat.le_succ n), (S3.trans S4).trans S5⟩
  · -- Asks
    have c1 := HH2.out.c 1 _ rfl
    rw [HWK.out] at c1
    have HA := Bx.mk (stx_ask wk t w2 HH2.out HS.out.tl (by omega))
    have HIS := Bx.mk (ask_is D wk t)
    go_wp2_with fail
    refine HA.out.mono ?_
    rintro e w3 ⟨bv2, Z3, rfl, O3, ⟨OO, GG, H4⟩, S4, ho⟩
    have HGG := Bx.mk (GG.base HS2.out.size)
    clear GG
    have ok4 := H4.two.ok
    obtain ⟨A, hA⟩ : ∃ A, D.ask wk t = A := ⟨_, rfl⟩
    have hSim := HS.out.ask HOK.out wk t
    obtain ⟨L2, hL2⟩ : ∃ L2, D.logAsk wk t L = L2 := ⟨_, rfl⟩
    have HMK := Bx.mk (fun W (h : StX W p Z3 A.2 q Y (mdOf D L) OO ob x) => stx_mask wk t W h HOK.out HS.out (by omega))
    rw [hA, hL2] at HMK hSim
    rw [hA] at HIS O3 H4 ok4 ⊢
    clear hA hL2 HA
    obtain ⟨⟨aid, abody, an, ais, aerr⟩, D2⟩ := A
    obtain ⟨a2, c2v, rfl⟩ := own_isSlice O3
    simp only at HMK hSim HIS O3 H4 ok4 ⊢
    obtain ⟨abl, habl⟩ : ∃ n, abody.length = n := ⟨_, rfl⟩
    rw [habl] at O3 ho ⊢
    have HABL := Bx.mk habl
    clear habl
    go_upto_region 7 with fail
    have hb3 := World.alloc_heap_new w3 (.cells #[.int .i64 aid, .slice a2 abl c2v] 37)
    have B4 := (Below.refl w3.heap.size w3).alloc (Nat.le_refl _) (.cells #[.int .i64 aid, .slice a2 abl c2v] 37)
    have H5 := H4.later B4
    have O5 := own_below O3 B4
    have S5 := (HS2.out.trans S4).trans (DStep.ofBelow _ B4)
    have hz3 : ∀ b, Z3 b → b < w3.heap.size := H4.two.xl
    have hy3 : ∀ b, Y b → b < w2.heap.size := HH2.out.two.yl
    have hsz : w2.heap.size ≤ w3.heap.size := S4.size
    have hsz4 : (w3.alloc (.cells #[.int .i64 aid, .slice a2 abl c2v] 37)).heap.size = w3.heap.size + 1 := World.size_alloc _ _
    generalize w3.alloc (.cells #[.int .i64 aid, .slice a2 abl c2v] 37) = w4 at *
    obtain ⟨tb, htb⟩ : ∃ b, w3.heap.size = b := ⟨_, rfl⟩
    rw [htb] at hb3 ⊢
    have c1 := H5.c 1 _ rfl
    rw [HWK.out] at c1
    have HH5 := Bx.mk H5
    have HS5 := Bx.mk S5
    have HOFF : Bx (¬ (Z3 tb ∨ Y tb) ∧ ∀ g, (Value.slice a2 abl c2v).ownBlock = some g → ¬ (Z3 g ∨ Y g)) := ⟨fun h => h.elim (fun h => by have := hz3 tb h; omega) (fun h => by have := hy3 tb h; omega), fun g hg h => h.elim (ho g hg) (fun h => by have h1 := hy3 g h; have h2 := (O3.lt g hg).1; omega)⟩
    have HB3 := Bx.mk hb3
    have HO5 := Bx.mk O5
    clear H4 H5 S4 S5 hb3 O3 O5 hz3 hy3 ho B4 hsz hsz4 htb
    go_wp2_with fail
    refine (HMK.out w4 HH5.out).mono ?_
    rintro e w5 ⟨rfl, Y5, H6, S6⟩
    have hb5 := (S6.block tb (Array.getElem?_eq_some_iff.1 HB3.out).1 HOFF.out.1).trans HB3.out
    have O6 := own_same HO5.out (w' := w5) (fun b hb => S6.block b (HO5.out.lt b hb).2 (HOFF.out.2 b hb))
    have HH6 := Bx.mk H6
    have HS6 := Bx.mk (HS5.out.trans S6)
    have HO6 := Bx.mk O6
    have t0 : w5.cell? ⟨tb, 0, none⟩ = some (.int .i64 aid) := by simp [World.cell?, hb5]
    have t1 : w5.cell? ⟨tb, 1, none⟩ = some (.slice a2 abl c2v) := by simp [World.cell?, hb5]
    obtain ⟨R6, hm6, _⟩ := H6.two.md
    obtain ⟨av6, jv6, tv6, J6, hm6⟩ := hm6
    have HF := Bx.mk (find_any aid w5 hm6 (by rw [mdOf_len]; have := ok4.many; omega))
    have HM6 := Bx.mk hm6
    have HOK4 := Bx.mk ok4
    have HSIM := Bx.mk hSim
    clear H6 S6 hb5 O6 HB3 HO5 HOFF HH5 HS5 HMK hm6 ok4 hSim c1
    go_wp2_with fail
    refine HF.out.mono ?_
    rintro e w6 ⟨⟨f, rfl, hf⟩, hw6⟩
    subst hw6
    cases ais
    · clear hf HF t0 t1
      go_upto_region 11 with fail
      go_quiet (fail)
      go_wp2_with fail
      go_ret
      have B9 := belD (Below.refl w6.heap.size w6) nq
      exact ⟨rfl, Z3, Y5, _, _, OO, HGG.out, (HH6.out.later B9).two, HSIM.out, HS6.out.trans (DStep.ofBelow _ B9)⟩
    · obtain ⟨en, hen, hbody⟩ := HIS.out rfl
      obtain ⟨k, rfl, hk⟩ := fnd_some HOK4.out hen hf
      obtain ⟨jx, g, c, hjx, hjxj, hjv, hc, hcm, _, kb, _⟩ := HM6.out.atI hk hen
      have c3 := HM6.out.c3
      rw [hjv] at c3
      obtain ⟨nj, hnj⟩ : ∃ n, D2.ids.length = n := ⟨_, rfl⟩
      have hkl : k < nj := by rw [← hnj]; exact (List.getElem?_eq_some_iff.1 hk).1
      rw [hnj] at c3 hc
      have hklI : (k : Int) < (nj : Int) := by omega
      have r1 : Rv w6 (.slice a2 abl c2v) abody.length (abody.map vB) := by rw [HABL.out]; exact Rv.of_own HO6.out
      have r2 := (HM6.out.bd jx (List.mem_of_getElem? hjx)).1.1
      rw [hjxj, jbOf_some hen] at r2
      simp only [hbody] at r2
      have HSB := Bx.mk (fun W (hW : W.heap = w6.heap) => sameBytes_refl (.slice a2 abl c2v) jx.bv abody W (rvSame r1 (fun g _ _ => by rw [hW])) (rvSame r2 (fun g _ _ => by rw [hW])))
      have hnj2 : nj ≤ 1024 := by rw [← hnj]; exact HOK4.out.many
      clear hf HF hen hbody hk hjx hjxj hjv hnj r1 r2
      go_upto_region 11 with fail
      go_quiet ((go_at_call 26; exact Calls.quiet_of (HSB.out _ rfl)))
      go_wp2_with fail
      go_ret
      have B9 := belD (Below.refl w6.heap.size w6) nq
      exact ⟨rfl, Z3, Y5, _, _, OO, HGG.out, (HH6.out.later B9).two, HSIM.out, HS6.out.trans (DStep.ofBelow _ B9)⟩
  · -- Answers
    have hnn0 : 0 ≤ nn := hn1 (by decide)
    have c2 := HH2.out.c 2 _ rfl
    have c1 := HH2.out.c 1 _ rfl
    rw [HNN.out] at c2
    rw [HWK.out] at c1
    obtain ⟨m, hm⟩ : ∃ m, L.length = m := ⟨_, rfl⟩
    have hmn : m ≤ n := by rw [← hm]; exact HS.out.ll
    obtain ⟨R7, hm7, _⟩ := HH2.out.two.md
    obtain ⟨av7, jv7, tv7, J7, hm7⟩ := hm7
    obtain ⟨ta7, tc7, htv⟩ := own_isSlice hm7.tr
    replace htv : tv7 = .slice ta7 m tc7 := by rw [htv]; show Value.slice ta7 L.length tc7 = _; rw [hm]
    have q4 := hm7.c4
    rw [htv] at q4
    have HM7 := Bx.mk hm7
    have HTV := Bx.mk htv
    have HM := Bx.mk hm
    clear hn0 hn1 hm htv hm7
    have hd13 : nn.tmod 13 = nn % 13 := Int.tmod_eq_emod_of_nonneg hnn0
    have hq13 : nn.tdiv 13 = nn / 13 := Int.tdiv_eq_ediv_of_nonneg hnn0
    have hd5 : nn.tmod 5 = nn % 5 := Int.tmod_eq_emod_of_nonneg hnn0
    by_cases hm0 : 0 < m
    case' neg =>
      obtain rfl : m = 0 := by omega
      go_upto_region 21 with fail
      have H7 := HH2.out
      have S7 := HS2.out
      clear q4 c2 c1
      obtain ⟨ta, hta⟩ : ∃ a, nn % 13 = a := ⟨_, rfl⟩
      obtain ⟨tr, htr⟩ : ∃ a, nn / 13 = a := ⟨_, rfl⟩
      have htr2 : -9223372036854775808 ≤ tr ∧ tr ≤ 9223372036854775807 := by omega
      rw [hta, htr]
      obtain ⟨wo, hwo⟩ : ∃ a, wk = a := ⟨_, rfl⟩
      rw [hwo]
      clear hta htr hwo
    case' pos =>
      have hm0I : (0 : Int) < (m : Int) := by omega
      by_cases h5 : 0 < nn % 5
      case' neg =>
        go_upto_region 21 with fail
        have H7 := HH2.out
        have S7 := HS2.out
        clear q4 c2 c1
        obtain ⟨ta, hta⟩ : ∃ a, nn % 13 = a := ⟨_, rfl⟩
        obtain ⟨tr, htr⟩ : ∃ a, nn / 13 = a := ⟨_, rfl⟩
        have htr2 : -9223372036854775808 ≤ tr ∧ tr ≤ 9223372036854775807 := by omega
        rw [hta, htr]
        obtain ⟨wo, hwo⟩ : ∃ a, wk = a := ⟨_, rfl⟩
        rw [hwo]
        clear hta htr hwo
      case' pos =>
        have hne : ¬ (m : Int) = 0 := by omega
        have hneN : ¬ m = 0 := by omega
        have hmod0 := Int.emod_nonneg nn hne
        have hmod1 := Int.emod_lt_of_pos nn hm0I
        obtain ⟨j, hj⟩ : ∃ j : Nat, nn % (m : Int) = (j : Int) := ⟨(nn % (m : Int)).toNat, by omega⟩
        rw [hj] at hmod0 hmod1
        have hjt : nn.tmod (m : Int) = (j : Int) := (Int.tmod_eq_emod_of_nonneg hnn0).trans hj
        obtain ⟨y, hy⟩ : ∃ y, L[j]? = some y := ⟨_, List.getElem?_eq_getElem (by rw [HM.out]; omega)⟩
        obtain ⟨g, c, hv2, hc, _, y0, y1, y2, y3, y4⟩ := HM7.out.try (i := j) (x := y) hy
        rw [HTV.out] at hv2
        injection hv2 with e1 e2 e3
        rw [e1, e3] at q4
        clear e1 e3
        replace hc : m ≤ c := by have h8 : L.length ≤ c := hc; omega
        obtain ⟨e8, he8, hg8⟩ := HS.out.log.get y (List.mem_of_getElem? hy)
        have hyn : y.num ≤ 100000 := by have h1 := (List.getElem?_eq_some_iff.1 hg8).1; have h2 := HS.out.tl _ _ he8; omega
        have hji : (j : Int) < (m : Int) := hmod1
        clear hy hg8 he8 e2 hmod0 hmod1
        go_upto_region 17 with fail
        have BD := (Below.refl w2.heap.size w2).drew
        have H3 := HH2.out.later BD
        have S3 := HS2.out.trans (DStep.ofBelow _ BD)
        have hbl2 := World.block_lt_of_cell? _ _ y0
        have s0 : w2.drew.cell? ⟨q, 4, none⟩ = some (.slice (some ⟨g, 0, none⟩) m c) ∧ w2.drew.cell? ⟨ob, 2, none⟩ = some (.int .i64 nn) ∧ w2.drew.cell? ⟨g, j * 5, none⟩ = some (.int .i64 y.task) ∧ w2.drew.cell? ⟨g, j * 5 + 1, none⟩ = some (.int .i64 (y.num : Int)) ∧ w2.drew.cell? ⟨g, j * 5 + 2, none⟩ = some (.int .i64 y.worker) ∧ w2.drew.cell? ⟨g, j * 5 + 3, none⟩ = some (.int .i64 y.tick) ∧ w2.drew.cell? ⟨g, j * 5 + 4, none⟩ = some (.bool y.over) := ⟨q4, c2, y0, y1, y2, y3, y4⟩
        refine wp_region_held_drew (S := fun W => W.cell? ⟨q, 4, none⟩ = some (.slice (some ⟨g, 0, none⟩) m c) ∧ W.cell? ⟨ob, 2, none⟩ = some (.int .i64 nn) ∧ W.cell? ⟨g, j * 5, none⟩ = some (.int .i64 y.task) ∧ W.cell? ⟨g, j * 5 + 1, none⟩ = some (.int .i64 (y.num : Int)) ∧ W.cell? ⟨g, j * 5 + 2, none⟩ = some (.int .i64 y.worker) ∧ W.cell? ⟨g, j * 5 + 3, none⟩ = some (.int .i64 y.tick) ∧ W.cell? ⟨g, j * 5 + 4, none⟩ = some (.bool y.over)) (by kernel_rfl) s0 (fun _ => ?_)
        refine wpAnyH_do 0 135 rfl rfl (by kernel_rfl) (by kernel_rfl) (by kernel_rfl) (fun _ _ _ _ _ h => h) (by kernel_rfl) (fun W hS => by (obtain ⟨s1, s2, s3, s4, s5, s6, s7⟩ := hS); go_simp; try with_reducible rfl) s0 ?_
        simp only [List.setIfInBounds_toArray, List.set_cons_succ, List.set_cons_zero]
        refine wpAnyH_do 1 136 rfl rfl (by kernel_rfl) (by kernel_rfl) (by kernel_rfl) (fun _ _ _ _ _ h => h) (by kernel_rfl) (fun W hS => by (obtain ⟨s1, s2, s3, s4, s5, s6, s7⟩ := hS); go_simp; try with_reducible rfl) s0 ?_
        simp only [List.setIfInBounds_toArray, List.set_cons_succ, List.set_cons_zero]
        refine wpAnyH_do 2 137 rfl rfl (by kernel_rfl) (by kernel_rfl) (by kernel_rfl) (fun _ _ _ _ _ h => h) (by kernel_rfl) (fun W hS => by (obtain ⟨s1, s2, s3, s4, s5, s6, s7⟩ := hS); go_simp; try with_reducible rfl) s0 ?_
        simp only [List.setIfInBounds_toArray, List.set_cons_succ, List.set_cons_zero]
        refine wpAnyH_do 3 138 rfl rfl (by kernel_rfl) (by kernel_rfl) (by kernel_rfl) (fun _ _ _ _ _ h => h) (by kernel_rfl) (fun W hS => by (obtain ⟨s1, s2, s3, s4, s5, s6, s7⟩ := hS); go_simp; try with_reducible rfl) s0 ?_
        simp only [List.setIfInBounds_toArray, List.set_cons_succ, List.set_cons_zero]
        refine wpAnyH_do 4 139 rfl rfl (by kernel_rfl) (by kernel_rfl) (by kernel_rfl) (fun _ _ _ _ _ h => h) (by kernel_rfl) (fun W hS => by (obtain ⟨s1, s2, s3, s4, s5, s6, s7⟩ := hS); go_simp; try with_reducible rfl) s0 ?_
        simp only [List.setIfInBounds_toArray, List.set_cons_succ, List.set_cons_zero]
        refine wpAnyH_do 5 140 rfl rfl (by kernel_rfl) (by kernel_rfl) (by kernel_rfl) (fun _ _ _ _ _ h => h) (by kernel_rfl) (fun W hS => by (obtain ⟨s1, s2, s3, s4, s5, s6, s7⟩ := hS); go_simp; try with_reducible rfl) s0 ?_
        simp only [List.setIfInBounds_toArray, List.set_cons_succ, List.set_cons_zero]
        refine wpAnyH_do 6 141 rfl rfl (by kernel_rfl) (by kernel_rfl) (by kernel_rfl) (fun _ _ _ _ _ h => h) (by kernel_rfl) (fun W hS => by (obtain ⟨s1, s2, s3, s4, s5, s6, s7⟩ := hS); go_simp; try with_reducible rfl) s0 ?_
        simp only [List.setIfInBounds_toArray, List.set_cons_succ, List.set_cons_zero]
        refine wpAnyH_do 7 142 rfl rfl (by kernel_rfl) (by kernel_rfl) (by kernel_rfl) (fun _ _ _ _ _ h => h) (by kernel_rfl) (fun W hS => by (obtain ⟨s1, s2, s3, s4, s5, s6, s7⟩ := hS); go_simp; try with_reducible rfl) s0 ?_
        simp only [List.setIfInBounds_toArray, List.set_cons_succ, List.set_cons_zero]
        refine wpAnyH_do 8 143 rfl rfl (by kernel_rfl) (by kernel_rfl) (by kernel_rfl) (fun _ _ _ _ _ h => h) (by kernel_rfl) (fun W hS => by (obtain ⟨s1, s2, s3, s4, s5, s6, s7⟩ := hS); go_simp; try with_reducible rfl) s0 ?_
        simp only [List.setIfInBounds_toArray, List.set_cons_succ, List.set_cons_zero]
        refine wpAnyH_do 9 144 rfl rfl (by kernel_rfl) (by kernel_rfl) (by kernel_rfl) (fun _ _ _ _ _ h => h) (by kernel_rfl) (fun W hS => by (obtain ⟨s1, s2, s3, s4, s5, s6, s7⟩ := hS); go_simp; try with_reducible rfl) s0 ?_
        simp only [List.setIfInBounds_toArray, List.set_cons_succ, List.set_cons_zero]
        refine wpAnyH_do 10 145 rfl rfl (by kernel_rfl) (by kernel_rfl) (by kernel_rfl) (fun _ _ _ _ _ h => h) (by kernel_rfl) (fun W hS => by (obtain ⟨s1, s2, s3, s4, s5, s6, s7⟩ := hS); go_simp; try with_reducible rfl) s0 ?_
        simp only [List.setIfInBounds_toArray, List.set_cons_succ, List.set_cons_zero]
        refine wpAnyH_do 11 146 rfl rfl (by kernel_rfl) (by kernel_rfl) (by kernel_rfl) (fun _ _ _ _ _ h => h) (by kernel_rfl) (fun W hS => by (obtain ⟨s1, s2, s3, s4, s5, s6, s7⟩ := hS); go_simp; try with_reducible rfl) s0 ?_
        simp only [List.setIfInBounds_toArray, List.set_cons_succ, List.set_cons_zero]
        refine wpAnyH_do 12 147 rfl rfl (by kernel_rfl) (by kernel_rfl) (by kernel_rfl) (fun _ _ _ _ _ h => h) (by kernel_rfl) (fun W hS => by (obtain ⟨s1, s2, s3, s4, s5, s6, s7⟩ := hS); go_simp; try with_reducible rfl) s0 ?_
        simp only [List.setIfInBounds_toArray, List.set_cons_succ, List.set_cons_zero]
        refine wpAnyH_do 13 148 rfl rfl (by kernel_rfl) (by kernel_rfl) (by kernel_rfl) (fun _ _ _ _ _ h => h) (by kernel_rfl) (fun W hS => by (obtain ⟨s1, s2, s3, s4, s5, s6, s7⟩ := hS); go_simp; try with_reducible rfl) s0 ?_
        simp only [List.setIfInBounds_toArray, List.set_cons_succ, List.set_cons_zero]
        refine wpAnyH_one 14 rfl (by kernel_rfl) (by kernel_rfl) (fun K hK => ?_)
        go_simp
        have ca : ∀ (o : Obj) b j u, w2.cell? ⟨b, j, none⟩ = some u → ((w2.alloc o).drew).cell? ⟨b, j, none⟩ = some u := fun o b j u hc => ((((Below.refl w2.heap.size w2).alloc (Nat.le_refl _) o).drew).cell (p := ⟨b, j, none⟩) (World.block_lt_of_cell? _ _ hc)).trans hc
        refine hK _ _ ⟨ca _ _ _ _ q4, ca _ _ _ _ c2, ca _ _ _ _ y0, ca _ _ _ _ y1, ca _ _ _ _ y2, ca _ _ _ _ y3, ca _ _ _ _ y4⟩ ?_
        clear hK
        refine wpAnyH_one 15 rfl (by kernel_rfl) (by kernel_rfl) (fun K hK => ?_)
        go_simp
        have hb5 := World.alloc_heap_new w2 (.cells #[.int .i64 y.task, .int .i64 (y.num : Int), .int .i64 y.worker, .int .i64 y.tick, .bool y.over] 135)
        have B5 := ((Below.refl w2.heap.size w2).alloc (Nat.le_refl _) (.cells #[.int .i64 y.task, .int .i64 (y.num : Int), .int .i64 y.worker, .int .i64 y.tick, .bool y.over] 135)).drew
        refine hK _ _ ⟨ca _ _ _ _ q4, ca _ _ _ _ c2, ca _ _ _ _ y0, ca _ _ _ _ y1, ca _ _ _ _ y2, ca _ _ _ _ y3, ca _ _ _ _ y4⟩ ?_
        clear hK
        refine wpAnyH_done (by kernel_rfl) ?_ _
        have H7 := HH2.out.later B5
        have S7 := HS2.out.trans (DStep.ofBelow _ B5)
        have hb5 : ((w2.alloc (.cells #[.int .i64 y.task, .int .i64 (y.num : Int), .int .i64 y.worker, .int .i64 y.tick, .bool y.over] 135)).drew).heap[w2.heap.size]? = _ := hb5
        generalize (w2.alloc (.cells #[.int .i64 y.task, .int .i64 (y.num : Int), .int .i64 y.worker, .int .i64 y.tick, .bool y.over] 135)).drew = W7 at *
        obtain ⟨tb, htb⟩ : ∃ b, w2.heap.size = b := ⟨_, rfl⟩
        rw [htb] at hb5 ⊢
        have z0 : W7.cell? ⟨tb, 0, none⟩ = some (.int .i64 y.task) := by simp [World.cell?, hb5]
        have z1 : W7.cell? ⟨tb, 1, none⟩ = some (.int .i64 (y.num : Int)) := by simp [World.cell?, hb5]
        have z2 : W7.cell? ⟨tb, 2, none⟩ = some (.int .i64 y.worker) := by simp [World.cell?, hb5]
        clear q4 c2 c1 y0 y1 y2 y3 y4 hb5 s0 H3 S3 htb hbl2 ca BD B5 hjt hj
        go_upto_region 21 with fail
        have htr2 : -9223372036854775808 ≤ (y.num : Int) ∧ (y.num : Int) ≤ 9223372036854775807 := by omega
        clear z0 z1 z2 hyn
        obtain ⟨ta, hta⟩ : ∃ a, y.task = a := ⟨_, rfl⟩
        obtain ⟨tr, htr⟩ : ∃ a, (y.num : Int) = a := ⟨_, rfl⟩
        obtain ⟨wo, hwo⟩ : ∃ a, y.worker = a := ⟨_, rfl⟩
        rw [hta, htr, hwo]
        rw [htr] at htr2
        clear hta htr hwo
    all_goals
      rename World => W7
      have c3 := H7.c 3 _ rfl
      rw [HBV.out] at c3
      have HA := stx_answer ta wo tr t W7 H7 htr2 hblm
      rw [HBV.out] at HA
      have HA := Bx.mk HA
      have HS7 := Bx.mk S7
      clear hd13 hq13 hd5 S7 H7
      go_wp2_with fail
      refine HA.out.mono ?_
      rintro e w8 ⟨rfl, Z8, O8, G8, H8, S8⟩
      have HGG := Bx.mk (G8.base HS7.out.size)
      clear G8
      have c3 := H8.c 3 _ rfl
      rw [HBV.out] at c3
      have HM := stx_manswer ta wo tr t w8 H8 HOK.out HS.out (by omega) hblm
      rw [HBV.out] at HM
      have HM := Bx.mk HM
      have HS8 := Bx.mk (HS7.out.trans S8)
      have HFS := Bx.mk ((HS.out.answer ta wo tr x.o.b t).mono (Nat.le_succ n))
      clear H8 S8 HA
      obtain ⟨AN, hAN⟩ : ∃ AN, D.answer ta wo tr x.o.b t = AN := ⟨_, rfl⟩
      rw [hAN] at HM HFS ⊢
      clear hAN
      obtain ⟨ab, ae, D9⟩ := AN
      simp only at HM HFS ⊢
      go_wp2_with fail
      refine HM.out.mono ?_
      rintro e w9 ⟨rfl, Y9, H9, S9⟩
      have HH9 := Bx.mk H9
      have HS9 := Bx.mk (HS8.out.trans S9)
      clear H9 S9 HM
      go_wp2_with fail
      go_ret
      exact ⟨rfl, Z8, Y9, _, _, O8, HGG.out, HH9.out.two, HFS.out, HS9.out⟩
  · -- Dies
    have c1 := HH2.out.c 1 _ rfl
    rw [HWK.out] at c1
    go_upto_region 25 with fail
    have BD := (Below.refl w2.heap.size w2).drew
    have H3 := HH2.out.later BD
    have S3 := HS2.out.trans (DStep.ofBelow _ BD)
    have c1 := H3.c 1 _ rfl
    rw [HWK.out] at c1
    have s0 : w2.drew.cell? ⟨ob, 1, none⟩ = some (.int .i64 wk) ∧ True := ⟨c1, trivial⟩
    refine wp_region_held_drew (S := fun W => W.cell? ⟨ob, 1, none⟩ = some (.int .i64 wk) ∧ True) (by kernel_rfl) s0 (fun _ => ?_)
    refine wpAnyH_do 0 188 rfl rfl (by kernel_rfl) (by kernel_rfl) (by kernel_rfl) (fun _ _ _ _ _ h => h) (by kernel_rfl) (fun W hS => by (obtain ⟨s1, _⟩ := hS); go_simp; try with_reducible rfl) s0 ?_
    simp only [List.setIfInBounds_toArray, List.set_cons_succ, List.set_cons_zero]
    refine wpAnyH_do 1 189 rfl rfl (by kernel_rfl) (by kernel_rfl) (by kernel_rfl) (fun _ _ _ _ _ h => h) (by kernel_rfl) (fun W hS => by (obtain ⟨s1, _⟩ := hS); go_simp; try with_reducible rfl) s0 ?_
    simp only [List.setIfInBounds_toArray, List.set_cons_succ, List.set_cons_zero]
    refine wpAnyH_do 2 190 rfl rfl (by kernel_rfl) (by kernel_rfl) (by kernel_rfl) (fun _ _ _ _ _ h => h) (by kernel_rfl) (fun W hS => by (obtain ⟨s1, _⟩ := hS); go_simp; try with_reducible rfl) s0 ?_
    simp only [List.setIfInBounds_toArray, List.set_cons_succ, List.set_cons_zero]
    refine wpAnyH_do 3 191 rfl rfl (by kernel_rfl) (by kernel_rfl) (by kernel_rfl) (fun _ _ _ _ _ h => h) (by kernel_rfl) (fun W hS => by (obtain ⟨s1, _⟩ := hS); go_simp; try with_reducible rfl) s0 ?_
    simp only [List.setIfInBounds_toArray, List.set_cons_succ, List.set_cons_zero]
    refine wpAnyH_do 5 193 rfl rfl (by kernel_rfl) (by kernel_rfl) (by kernel_rfl) (fun _ _ _ _ _ h => h) (by kernel_rfl) (fun W hS => by (obtain ⟨s1, _⟩ := hS); go_simp; try with_reducible rfl) s0 ?_
    simp only [List.setIfInBounds_toArray, List.set_cons_succ, List.set_cons_zero]
    refine wpAnyH_do 6 194 rfl rfl (by kernel_rfl) (by kernel_rfl) (by kernel_rfl) (fun _ _ _ _ _ h => h) (by kernel_rfl) (fun W hS => by (obtain ⟨s1, _⟩ := hS); go_simp; try with_reducible rfl) s0 ?_
    simp only [List.setIfInBounds_toArray, List.set_cons_succ, List.set_cons_zero]
    refine wpAnyH_do 7 195 rfl rfl (by kernel_rfl) (by kernel_rfl) (by kernel_rfl) (fun _ _ _ _ _ h => h) (by kernel_rfl) (fun W hS => by (obtain ⟨s1, _⟩ := hS); go_simp; try with_reducible rfl) s0 ?_
    simp only [List.setIfInBounds_toArray, List.set_cons_succ, List.set_cons_zero]
    refine wpAnyH_do 8 196 rfl rfl (by kernel_rfl) (by kernel_rfl) (by kernel_rfl) (fun _ _ _ _ _ h => h) (by kernel_rfl) (fun W hS => by (obtain ⟨s1, _⟩ := hS); go_simp; try with_reducible rfl) s0 ?_
    simp only [List.setIfInBounds_toArray, List.set_cons_succ, List.set_cons_zero]
    refine wpAnyH_one 4 rfl (by kernel_rfl) (by kernel_rfl) (fun K hK => ?_)
    go_simp
    refine (stx_die wk t w2.drew H3).mono ?_
    rintro e w3 ⟨rfl, Z3, O3, G3, H4, S4⟩
    have c1 := H4.c 1 _ rfl
    rw [HWK.out] at c1
    refine hK _ _ ⟨c1, trivial⟩ ?_
    clear hK
    refine wpAnyH_one 9 rfl (by kernel_rfl) (by kernel_rfl) (fun K hK => ?_)
    go_simp
    refine (stx_mdie wk t w3 H4 HS.out (by omega)).mono ?_
    rintro e w4 ⟨rfl, Y4, H5, S5⟩
    have c1 := H5.c 1 _ rfl
    rw [HWK.out] at c1
    have s1 : w4.cell? ⟨ob, 1, none⟩ = some (.int .i64 wk) ∧ True := ⟨c1, trivial⟩
    refine hK _ _ s1 ?_
    clear hK
    refine wpAnyH_do 10 198 rfl rfl (by kernel_rfl) (by kernel_rfl) (by kernel_rfl) (fun _ _ _ _ _ h => h) (by kernel_rfl) (fun W hS => by (obtain ⟨s1, _⟩ := hS); go_simp; try with_reducible rfl) s1 ?_
    simp only [List.setIfInBounds_toArray, List.set_cons_succ, List.set_cons_zero]
    refine wpAnyH_do 11 6 rfl rfl (by kernel_rfl) (by kernel_rfl) (by kernel_rfl) (fun _ _ _ _ _ h => h) (by kernel_rfl) (fun W hS => by (obtain ⟨s1, _⟩ := hS); go_simp; try with_reducible rfl) s1 ?_
    simp only [List.setIfInBounds_toArray, List.set_cons_succ, List.set_cons_zero]
    refine wpAnyH_done (by kernel_rfl) ?_ _
    go_wp2_with fail
    go_ret
    exact ⟨rfl, Z3, Y4, _, _, O3, G3.base S3.size, H5.two, (HS.out.die HOK.out wk t).mono (Nat.le_succ n), (S3.trans S4).trans S5⟩
  · -- Revives
    have c1 := HH2.out.c 1 _ rfl
    rw [HWK.out] at c1
    go_upto_region 26 with fail
    have BD := (Below.refl w2.heap.size w2).drew
    have H3 := HH2.out.later BD
    have S3 := HS2.out.trans (DStep.ofBelow _ BD)
    have c1 := H3.c 1 _ rfl
    rw [HWK.out] at c1
    have s0 : w2.drew.cell? ⟨ob, 1, none⟩ = some (.int .i64 wk) ∧ True := ⟨c1, trivial⟩
    refine wp_region_held_drew (S := fun W => W.cell? ⟨ob, 1, none⟩ = some (.int .i64 wk) ∧ True) (by kernel_rfl) s0 (fun _ => ?_)
    refine wpAnyH_do 0 199 rfl rfl (by kernel_rfl) (by kernel_rfl) (by kernel_rfl) (fun _ _ _ _ _ h => h) (by kernel_rfl) (fun W hS => by (obtain ⟨s1, _⟩ := hS); go_simp; try with_reducible rfl) s0 ?_
    simp only [List.setIfInBounds_toArray, List.set_cons_succ, List.set_cons_zero]
    refine wpAnyH_do 1 200 rfl rfl (by kernel_rfl) (by kernel_rfl) (by kernel_rfl) (fun _ _ _ _ _ h => h) (by kernel_rfl) (fun W hS => by (obtain ⟨s1, _⟩ := hS); go_simp; try with_reducible rfl) s0 ?_
    simp only [List.setIfInBounds_toArray, List.set_cons_succ, List.set_cons_zero]
    refine wpAnyH_do 2 201 rfl rfl (by kernel_rfl) (by kernel_rfl) (by kernel_rfl) (fun _ _ _ _ _ h => h) (by kernel_rfl) (fun W hS => by (obtain ⟨s1, _⟩ := hS); go_simp; try with_reducible rfl) s0 ?_
    simp only [List.setIfInBounds_toArray, List.set_cons_succ, List.set_cons_zero]
    refine wpAnyH_do 4 203 rfl rfl (by kernel_rfl) (by kernel_rfl) (by kernel_rfl) (fun _ _ _ _ _ h => h) (by kernel_rfl) (fun W hS => by (obtain ⟨s1, _⟩ := hS); go_simp; try with_reducible rfl) s0 ?_
    simp only [List.setIfInBounds_toArray, List.set_cons_succ, List.set_cons_zero]
    refine wpAnyH_do 5 204 rfl rfl (by kernel_rfl) (by kernel_rfl) (by kernel_rfl) (fun _ _ _ _ _ h => h) (by kernel_rfl) (fun W hS => by (obtain ⟨s1, _⟩ := hS); go_simp; try with_reducible rfl) s0 ?_
    simp only [List.setIfInBounds_toArray, List.set_cons_succ, List.set_cons_zero]
    refine wpAnyH_do 6 205 rfl rfl (by kernel_rfl) (by kernel_rfl) (by kernel_rfl) (fun _ _ _ _ _ h => h) (by kernel_rfl) (fun W hS => by (obtain ⟨s1, _⟩ := hS); go_simp; try with_reducible rfl) s0 ?_
    simp only [List.setIfInBounds_toArray, List.set_cons_succ, List.set_cons_zero]
    refine wpAnyH_one 3 rfl (by kernel_rfl) (by kernel_rfl) (fun K hK => ?_)
    go_simp
    refine (stx_revive wk w2.drew H3).mono ?_
    rintro e w3 ⟨rfl, Z3, O3, G3, H4, S4⟩
    have c1 := H4.c 1 _ rfl
    rw [HWK.out] at c1
    refine hK _ _ ⟨c1, trivial⟩ ?_
    clear hK
    refine wpAnyH_one 7 rfl (by kernel_rfl) (by kernel_rfl) (fun K hK => ?_)
    go_simp
    refine (stx_mrevive wk w3 H4).mono ?_
    rintro e w4 ⟨rfl, Y4, H5, S5⟩
    have c1 := H5.c 1 _ rfl
    rw [HWK.out] at c1
    have s1 : w4.cell? ⟨ob, 1, none⟩ = some (.int .i64 wk) ∧ True := ⟨c1, trivial⟩
    refine hK _ _ s1 ?_
    clear hK
    refine wpAnyH_do 8 207 rfl rfl (by kernel_rfl) (by kernel_rfl) (by kernel_rfl) (fun _ _ _ _ _ h => h) (by kernel_rfl) (fun W hS => by (obtain ⟨s1, _⟩ := hS); go_simp; try with_reducible rfl) s1 ?_
    simp only [List.setIfInBounds_toArray, List.set_cons_succ, List.set_cons_zero]
    refine wpAnyH_do 9 6 rfl rfl (by kernel_rfl) (by kernel_rfl) (by kernel_rfl) (fun _ _ _ _ _ h => h) (by kernel_rfl) (fun W hS => by (obtain ⟨s1, _⟩ := hS); go_simp; try with_reducible rfl) s1 ?_
    simp only [List.setIfInBounds_toArray, List.set_cons_succ, List.set_cons_zero]
    refine wpAnyH_done (by kernel_rfl) ?_ _
    go_wp2_with fail
    go_ret
    exact ⟨rfl, Z3, Y4, _, _, O3, G3.base S3.size, H5.two, (HS.out.revive wk).mono (Nat.le_succ n), (S3.trans S4).trans S5⟩
end
end Go.Proofs.Ytfdacckkdjpjhaa
