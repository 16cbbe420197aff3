/- The model of a log (rexmillref31): what it is, Append. -/
import Derived.Test.YtpehnggglolnoaaGreatJlF
import Derived.Test.YtpehnggglolnoaaGreatJrnK
import Derived.Test.YtpehnggglolnoaaGreatMdJ
namespace Go.Proofs.YtpehnggglolnoaaGreat
open Go.RowKit

/-- Of a row that fills its block: every cell is one of it. -/
theorem own_full {w : World} {base : Nat} {e : TypeId} {g n : Nat} {xs : List Value} (h : w.ownsRow base e 1 (.slice (some ⟨g, 0, none⟩) n n) n xs) {k : Nat} {x : Value} (hc : w.cell? ⟨g, k, none⟩ = some x) : x ∈ xs := by
  obtain ⟨_, ⟨h0, _⟩ | ⟨g', cap, cur, he, _, hg, _, _, hs, ht⟩⟩ := h
  · cases h0
  · injection he with e1 e2 e3
    injection e1 with e4
    injection e4 with e5
    subst e5 e3
    unfold World.cell? at hc
    rw [hg] at hc
    simp only at hc
    have hm : x ∈ cur.toList := Array.mem_toList_iff.2 (Array.mem_of_getElem? (by simpa using hc))
    rw [← ht, List.take_of_length_le (by rw [Array.length_toList, hs]; exact Nat.le_refl _)]
    exact hm
/-- What reads as bytes lies off the model's tables. -/
theorem rv_t3 {w w' : World} {q gB gF : Nat} {vs : List Value} {pl : Int} {Y : Nat → Prop} {D : Dk} (hM : MoX w q gB gF vs pl Y D) (S : DStep (T3 q gB gF) (T3 q gB gF) w w') {u : Value} {n : Nat} {l : List UInt8} (h : Rv w u n (l.map vB)) : Rv w' u n (l.map vB) := by
  obtain ⟨ao, cap, rfl, h1, h2, h3, hrd⟩ := h
  refine ⟨ao, cap, rfl, h1, h2, h3, ?_⟩
  rcases hrd with hrd | ⟨b, off, rfl, hrd⟩
  · exact .inl hrd
  · refine .inr ⟨b, off, rfl, fun i x hx => ?_⟩
    have hc := hrd i x hx
    rw [List.getElem?_map] at hx
    obtain ⟨y, _, rfl⟩ := Option.map_eq_some_iff.1 hx
    have hb : ¬ T3 q gB gF b := by
      rintro (rfl | rfl | rfl)
      · have hk := hM.1.blk
        unfold World.cell? at hc
        rw [hk] at hc
        simp only [moO] at hc
        have hm := List.mem_of_getElem? (show ([Value.int IntKind.i64 D.room, Value.slice (some { block := gB, off := 0 }) 64 64, Value.slice (some { block := gF, off := 0 }) 64 64, Value.bool D.off, Value.int IntKind.i64 pl] : List Value)[off + i]? = some (vB y) by simpa using hc)
        simp [vB] at hm
      · have hm := own_full hM.1.ob hc
        obtain ⟨j, hj⟩ := List.getElem?_of_mem hm
        have hj64 := (List.getElem?_eq_some_iff.1 hj).1
        rw [hM.1.vl] at hj64
        obtain ⟨a, c, hv, _⟩ := hM.1.at hj64
        rw [hv] at hj
        cases hj
      · have hm := own_full hM.1.of hc
        obtain ⟨d, _, hd⟩ := List.mem_map.1 hm
        cases hd
    have hk := S.block b (World.block_lt_of_cell? _ _ hc) hb
    unfold World.cell? at hc ⊢
    rw [hk]
    exact hc
theorem LsO.t3 {w w' : World} {q gB gF : Nat} {vs : List Value} {pl : Int} {Y : Nat → Prop} {D : Dk} {base : Nat} {v : Value} {us : List Value} {L : List (List UInt8)} (h : LsO w base v us L) (hM : MoX w q gB gF vs pl Y D) (hY : ∀ b, Y b → b < base) (S : DStep (T3 q gB gF) (T3 q gB gF) w w') : LsO w' base v us L :=
  ⟨own_step h.own S (Off.ge h.own (fun b hb => hY b (hM.t3 b hb))), h.one, fun i hi u hu => rv_t3 hM S (h.rd i hi u hu), fun u hu => (h.low u hu).mono S.size, h.far⟩

/-- A model log's four cells. -/
def mlO (q : Nat) (f : Int) (g : Lg) : Obj := .cells #[.pointer (some ⟨q, 0, none⟩), .int .i64 f, .int .i64 (g.n : Int), .bool g.down] 44 (0, 0)
/-- The model log g in block z, on the model disk in block q, in its file f. -/
structure MLg (w : World) (z q : Nat) (f : Int) (g : Lg) : Prop where
  blk : w.heap[z]? = some (mlO q f g)
section
variable {w w' : World} {z q : Nat} {f : Int} {g : Lg} {X X' : Nat → Prop}
theorem MLg.lt (h : MLg w z q f g) : z < w.heap.size := (Array.getElem?_eq_some_iff.1 h.blk).1
theorem MLg.c0 (h : MLg w z q f g) : w.cell? ⟨z, 0, none⟩ = some (.pointer (some ⟨q, 0, none⟩)) := by have := h.blk; unfold mlO at this; simp [World.cell?, this]
theorem MLg.c1 (h : MLg w z q f g) : w.cell? ⟨z, 1, none⟩ = some (.int .i64 f) := by have := h.blk; unfold mlO at this; simp [World.cell?, this]
theorem MLg.c2 (h : MLg w z q f g) : w.cell? ⟨z, 2, none⟩ = some (.int .i64 (g.n : Int)) := by have := h.blk; unfold mlO at this; simp [World.cell?, this]
theorem MLg.c3 (h : MLg w z q f g) : w.cell? ⟨z, 3, none⟩ = some (.bool g.down) := by have := h.blk; unfold mlO at this; simp [World.cell?, this]
theorem MLg.fz (h : MLg w z q f g) (j : Nat) : w.frozen? ⟨z, j, none⟩ = false := by have := h.blk; unfold mlO at this; simp [World.frozen?, this]
theorem MLg.later (h : MLg w z q f g) (B : Below w.heap.size w w') : MLg w' z q f g := ⟨(B.block z h.lt).trans h.blk⟩
theorem MLg.step (h : MLg w z q f g) (S : DStep X X' w w') (hz : ¬ X z) : MLg w' z q f g := ⟨(S.block z h.lt hz).trans h.blk⟩
theorem MLg.down (h : MLg w z q f g) (x : Bool) : MLg (w.setCell ⟨z, 3, none⟩ (.bool x)) z q f ⟨g.n, x⟩ := by
  have := h.blk
  unfold mlO at this
  refine ⟨?_⟩
  unfold mlO
  simp [World.setCell, Array.getElem?_modify, this]
theorem MLg.more (h : MLg w z q f g) : MLg (w.setCell ⟨z, 2, none⟩ (.int .i64 ((g.n : Int) + 1))) z q f ⟨g.n + 1, g.down⟩ := by
  have := h.blk
  unfold mlO at this
  refine ⟨?_⟩
  unfold mlO
  simp [World.setCell, Array.getElem?_modify, this]
theorem MAt.set {Y : Nat → Prop} {D : Dk} (h : MAt w q Y D) {b i : Nat} (hb : ¬ Y b) (v : Value) : MAt (w.setCell ⟨b, i, none⟩ v) q Y D := by
  obtain ⟨gB, gF, vs, pl, h, h2⟩ := h
  exact ⟨gB, gF, vs, pl, h.kept (by rw [World.size_setCell]; exact Nat.le_refl _) (fun c hc => Below.heap_setCell _ _ _ _ (fun e => hb (by rw [← show c = b from e]; exact hc))), h2⟩
end

set_option maxRecDepth 20000 in
set_option maxHeartbeats 1000000 in
theorem mlappend (f : Int) (g : Lg) (bv : Value) (b : List UInt8) (w : World) {q z : Nat} {Y : Nat → Prop} {D : Dk} (h : MAt w q Y D) (hg : MLg w z q f g) (hz : ¬ Y z) (hb : Rv w bv b.length (b.map vB)) (hbl : b.length ≤ 1000000000) (hn : g.n ≤ 1000000000) :
    Calls Tryz.prog 16 #[.pointer (some ⟨z, 0, none⟩), bv] w fun e w' => e = .returned (.int .i64 (D.logApp f g b).1) ∧ ∃ Y', MAt w' q Y' (D.logApp f g b).2.1 ∧ MLg w' z q f (D.logApp f g b).2.2 ∧ ¬ Y' z ∧ DStep (fun b => Y b ∨ b = z) (fun b => Y' b ∨ b = z) w w' := by
  obtain ⟨ao, cap, rfl, hcap, _⟩ := hb.opened
  obtain ⟨R, hR⟩ : ∃ R, D.logApp f g b = R := ⟨_, rfl⟩
  rw [hR]
  unfold Dk.logApp at hR
  have HR := Bx.mk hR
  have c3 := hg.c3
  clear hR
  go_enter Tryz.func16, Tryz.ntmps16
  by_cases hlong : 65536 < b.length
  · have hR := HR.out
    rw [if_pos hlong] at hR
    go_wp2_with fail
    go_ret
    rw [← hR]
    exact ⟨rfl, Y, h, hg, hz, DStep.refl _ _⟩
  · have hR := HR.out
    rw [if_neg hlong] at hR
    have HR := Bx.mk hR
    clear hR
    cases hd : g.down
    · rw [hd] at c3
      have hR := HR.out
      rw [hd, if_neg (by simp)] at hR
      have HR := Bx.mk hR
      clear hR
      have c0 := hg.c0
      have c1 := hg.c1
      have c2 := hg.c2
      obtain ⟨n, hn1⟩ : ∃ n, g.n = n := ⟨_, rfl⟩
      have hR := HR.out
      rw [hn1] at hR c2 hn
      have gg : MLg w z q f ⟨n, false⟩ := by rw [← hn1, ← hd]; exact hg
      have hfr := fun W hW => rframe_any (.slice ao b.length cap) b (n : Int) W hW (by omega) (by omega)
      have hFl := (frameM_lens (n : Int) b).2
      obtain ⟨F, hF⟩ : ∃ F, frameM (n : Int) b = F := ⟨_, rfl⟩
      rw [hF] at hR hFl hfr
      have HR := Bx.mk hR
      have HFR := Bx.mk hfr
      clear hR hfr hF hg hn1 hd
      go_upto_region 5 with fail
      have B2d := (Below.refl w.heap.size w).drew
      have s0 : w.drew.cell? ⟨z, 0, none⟩ = some (.pointer (some ⟨q, 0, none⟩)) ∧ w.drew.cell? ⟨z, 1, none⟩ = some (.int .i64 f) ∧ w.drew.cell? ⟨z, 2, none⟩ = some (.int .i64 (n : Int)) := ⟨c0, c1, c2⟩
      refine wp_region_noPanic ?_
      refine wp_region_held_drew (S := fun W => W.cell? ⟨z, 0, none⟩ = some (.pointer (some ⟨q, 0, none⟩)) ∧ W.cell? ⟨z, 1, none⟩ = some (.int .i64 f) ∧ W.cell? ⟨z, 2, none⟩ = some (.int .i64 (n : Int))) (by kernel_rfl) s0 (fun _ => ?_)
      refine wpAnyH_do 0 13 rfl rfl (by kernel_rfl) (by kernel_rfl) (by kernel_rfl) (fun _ _ _ _ _ h => h) (by kernel_rfl) (fun W hS => by (obtain ⟨s1, s2, s3⟩ := hS); go_simp; try with_reducible rfl) s0 ?_
      simp only [List.setIfInBounds_toArray, List.set_cons_succ, List.set_cons_zero]
      refine wpAnyH_do 1 14 rfl rfl (by kernel_rfl) (by kernel_rfl) (by kernel_rfl) (fun _ _ _ _ _ h => h) (by kernel_rfl) (fun W hS => by (obtain ⟨s1, s2, s3⟩ := hS); go_simp; try with_reducible rfl) s0 ?_
      simp only [List.setIfInBounds_toArray, List.set_cons_succ, List.set_cons_zero]
      refine wpAnyH_do 2 15 rfl rfl (by kernel_rfl) (by kernel_rfl) (by kernel_rfl) (fun _ _ _ _ _ h => h) (by kernel_rfl) (fun W hS => by (obtain ⟨s1, s2, s3⟩ := hS); go_simp; try with_reducible rfl) s0 ?_
      simp only [List.setIfInBounds_toArray, List.set_cons_succ, List.set_cons_zero]
      refine wpAnyH_do 3 16 rfl rfl (by kernel_rfl) (by kernel_rfl) (by kernel_rfl) (fun _ _ _ _ _ h => h) (by kernel_rfl) (fun W hS => by (obtain ⟨s1, s2, s3⟩ := hS); go_simp; try with_reducible rfl) s0 ?_
      simp only [List.setIfInBounds_toArray, List.set_cons_succ, List.set_cons_zero]
      refine wpAnyH_do 4 17 rfl rfl (by kernel_rfl) (by kernel_rfl) (by kernel_rfl) (fun _ _ _ _ _ h => h) (by kernel_rfl) (fun W hS => by (obtain ⟨s1, s2, s3⟩ := hS); go_simp; try with_reducible rfl) s0 ?_
      simp only [List.setIfInBounds_toArray, List.set_cons_succ, List.set_cons_zero]
      refine wpAnyH_do 5 18 rfl rfl (by kernel_rfl) (by kernel_rfl) (by kernel_rfl) (fun _ _ _ _ _ h => h) (by kernel_rfl) (fun W hS => by (obtain ⟨s1, s2, s3⟩ := hS); go_simp; try with_reducible rfl) s0 ?_
      simp only [List.setIfInBounds_toArray, List.set_cons_succ, List.set_cons_zero]
      refine wpAnyH_do 6 19 rfl rfl (by kernel_rfl) (by kernel_rfl) (by kernel_rfl) (fun _ _ _ _ _ h => h) (by kernel_rfl) (fun W hS => by (obtain ⟨s1, s2, s3⟩ := hS); go_simp; try with_reducible rfl) s0 ?_
      simp only [List.setIfInBounds_toArray, List.set_cons_succ, List.set_cons_zero]
      refine wpAnyH_do 7 20 rfl rfl (by kernel_rfl) (by kernel_rfl) (by kernel_rfl) (fun _ _ _ _ _ h => h) (by kernel_rfl) (fun W hS => by (obtain ⟨s1, s2, s3⟩ := hS); go_simp; try with_reducible rfl) s0 ?_
      simp only [List.setIfInBounds_toArray, List.set_cons_succ, List.set_cons_zero]
      refine wpAnyH_do 8 21 rfl rfl (by kernel_rfl) (by kernel_rfl) (by kernel_rfl) (fun _ _ _ _ _ h => h) (by kernel_rfl) (fun W hS => by (obtain ⟨s1, s2, s3⟩ := hS); go_simp; try with_reducible rfl) s0 ?_
      simp only [List.setIfInBounds_toArray, List.set_cons_succ, List.set_cons_zero]
      refine wpAnyH_do 9 22 rfl rfl (by kernel_rfl) (by kernel_rfl) (by kernel_rfl) (fun _ _ _ _ _ h => h) (by kernel_rfl) (fun W hS => by (obtain ⟨s1, s2, s3⟩ := hS); go_simp; try with_reducible rfl) s0 ?_
      simp only [List.setIfInBounds_toArray, List.set_cons_succ, List.set_cons_zero]
      refine wpAnyH_do 10 23 rfl rfl (by kernel_rfl) (by kernel_rfl) (by kernel_rfl) (fun _ _ _ _ _ h => h) (by kernel_rfl) (fun W hS => by (obtain ⟨s1, s2, s3⟩ := hS); go_simp; try with_reducible rfl) s0 ?_
      simp only [List.setIfInBounds_toArray, List.set_cons_succ, List.set_cons_zero]
      refine wpAnyH_do 11 24 rfl rfl (by kernel_rfl) (by kernel_rfl) (by kernel_rfl) (fun _ _ _ _ _ h => h) (by kernel_rfl) (fun W hS => by (obtain ⟨s1, s2, s3⟩ := hS); go_simp; try with_reducible rfl) s0 ?_
      simp only [List.setIfInBounds_toArray, List.set_cons_succ, List.set_cons_zero]
      refine wpAnyH_do 12 25 rfl rfl (by kernel_rfl) (by kernel_rfl) (by kernel_rfl) (fun _ _ _ _ _ h => h) (by kernel_rfl) (fun W hS => by (obtain ⟨s1, s2, s3⟩ := hS); go_simp; try with_reducible rfl) s0 ?_
      simp only [List.setIfInBounds_toArray, List.set_cons_succ, List.set_cons_zero]
      refine wpAnyH_one 13 rfl (by kernel_rfl) (by kernel_rfl) (fun K hK => ?_)
      go_simp
      refine (HFR.out w.drew (hb.below B2d)).mono ?_
      rintro e w3 ⟨v3, rfl, M3⟩
      have B3 := B2d.trans (M3.2.mono (Nat.le_refl _))
      have D3 := h.later B3
      have g3 := gg.later B3
      have O3 := M3.1
      rw [List.length_map] at O3
      have o3 : Off v3 Y := Off.ge O3 h.yl
      refine hK _ _ ⟨g3.c0, g3.c1, g3.c2⟩ ?_
      clear hK
      refine wpAnyH_one 14 rfl (by kernel_rfl) (by kernel_rfl) (fun K hK => ?_)
      go_simp
      refine (mappend_any f v3 F w3 D3 (Rv.of_own O3) (by omega)).mono ?_
      rintro e w4 ⟨rfl, Y4, D4, S4⟩
      obtain ⟨⟨r, E⟩, hA⟩ : ∃ A, D.append f F = A := ⟨_, rfl⟩
      have hR := HR.out
      rw [hA] at hR D4 ⊢
      change MAt w4 q Y4 E at D4
      change (if r ≠ 0 then (r, E, (⟨n, decide (r = 19)⟩ : Lg)) else if E.sync.1 ≠ 0 then (E.sync.1, E.sync.2, (⟨n, decide (E.sync.1 = 19)⟩ : Lg)) else (0, E.sync.2, ⟨n + 1, false⟩)) = R at hR
      have HR := Bx.mk hR
      clear hR
      have hz4 : ¬ Y4 z := fun hx => (S4.grow _ hx).elim hz (fun h => by have := g3.lt; omega)
      have g4 := g3.step S4 hz
      have Sw : DStep (fun b => Y b ∨ b = z) (fun b => Y4 b ∨ b = z) w w4 := ((DStep.ofBelow Y B3).trans S4).wide _
      refine hK _ _ ⟨g4.c0, g4.c1, g4.c2⟩ ?_
      refine wpAnyH_do 15 5 rfl rfl (by kernel_rfl) (by kernel_rfl) (by kernel_rfl) (fun _ _ _ _ _ h => h) (by kernel_rfl) (fun W hS => by (obtain ⟨s1, s2, s3⟩ := hS); go_simp; try with_reducible rfl) ⟨g4.c0, g4.c1, g4.c2⟩ ?_
      simp only [List.setIfInBounds_toArray, List.set_cons_succ, List.set_cons_zero]
      refine wpAnyH_done (by kernel_rfl) ?_ _
      refine NoPanic.normal ?_
      clear hK s0 B2d B3 M3 D3 g3 O3 o3 S4 HFR hA hb c0 c1 c2 c3 gg h
      have c04 := g4.c0
      have c34 := g4.c3
      have f34 := g4.fz 3
      by_cases hr : r = 0
      · subst hr
        have hR := HR.out
        rw [if_neg (by simp)] at hR
        have HR := Bx.mk hR
        clear hR
        go_wp2_with fail
        refine (msync_any w4 D4).mono ?_
        rintro e w5 ⟨rfl, D5, S5⟩
        obtain ⟨⟨r, G⟩, hG⟩ : ∃ A, E.sync = A := ⟨_, rfl⟩
        have hR := HR.out
        rw [hG] at hR D5 ⊢
        change MAt w5 q Y4 G at D5
        change (if r ≠ 0 then (r, G, (⟨n, decide (r = 19)⟩ : Lg)) else (0, G, ⟨n + 1, false⟩)) = R at hR
        have HR := Bx.mk hR
        have g5 := g4.step S5 hz4
        have Sw5 := Sw.trans (S5.wide fun b => b = z)
        have c35 := g5.c3
        have f35 := g5.fz 3
        have g6 := g5.down (decide (r = 19))
        clear hR hG S5 D4 c04 c34 f34 g4 Sw
        by_cases hr : r = 0
        · subst hr
          have hR := HR.out
          rw [if_neg (by simp)] at hR
          have c2 := g6.c2
          have f2 := g6.fz 2
          have hw : IntKind.i64.wrap ((n : Int) + 1) = (n : Int) + 1 := by rw [IntKind.wrap_i64]; omega
          have g7 := g6.more
          rw [show decide ((0 : Int) = 19) = false from rfl] at c2 f2 g7
          go_wp2_with fail
          go_ret
          rw [← hR]
          exact ⟨rfl, Y4, (D5.set hz4 _).set hz4 _, g7, hz4, (Sw5.set (.inl (.inr rfl)) _).set (.inl (.inr rfl)) _⟩
        · have hR := HR.out
          rw [if_pos hr] at hR
          go_wp2_with fail
          go_ret
          rw [← hR]
          exact ⟨rfl, Y4, D5.set hz4 _, g6, hz4, Sw5.set (.inl (.inr rfl)) _⟩
      · have hR := HR.out
        rw [if_pos hr] at hR
        have g6 := g4.down (decide (r = 19))
        go_wp2_with fail
        go_ret
        rw [← hR]
        exact ⟨rfl, Y4, D4.set hz4 _, g6, hz4, Sw.set (.inl (.inr rfl)) _⟩
    · rw [hd] at c3
      have hR := HR.out
      rw [hd, if_pos rfl] at hR
      go_wp2_with fail
      go_ret
      rw [← hR]
      exact ⟨rfl, Y, h, hg, hz, DStep.refl _ _⟩
end Go.Proofs.YtpehnggglolnoaaGreat
