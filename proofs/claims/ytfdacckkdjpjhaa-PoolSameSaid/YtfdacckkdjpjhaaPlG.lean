/- Package pool: Add. -/
import Derived.Test.YtfdacckkdjpjhaaPlF
namespace Go.Proofs.Ytfdacckkdjpjhaa
open Go.RowKit

/-- 'm[k] = v' as one operation. -/
theorem opUpd {P : Program} {w : World} {o : Oper} {a : Act} {K : Act → World → Prop} {Q : Exit → Act → World → Prop} {t Kt e : TypeId} {b : Nat} {F : Int → Option Value} {ks : List Int} (m x y : Operand) {k : Int} {v : Value} (hop : o.op = .mapUpdate t m x y) (ht : P.underlying t = some (.map Kt e)) (hK : P.underlying Kt = some (.int .i64)) (hm : a.eval m = .map (some b)) (hx : a.eval x = .int .i64 k) (hy : a.eval y = v) (h : MapF w b F ks)
    (hc : ∀ w', MapF w' b (fun x => if x = k then some v else F x) (if k ∈ ks then ks else ks ++ [k]) → w.grownBy w' (some b) → w'.heap.size = w.heap.size → K (a.put o.dst undef) w') : Oper.wp P o a w K Q := by
  obtain ⟨w', hrun, r1, r2, r3⟩ := h.update (P := P) ht hK k v
  unfold Oper.wp execOp
  simp only [hop, Sem.run_bind, Sem.run_pure, Result.andThen_ok, hm, hx, hy, hrun]
  exact hc w' r1 r2 r3
section
variable {p : Nat} {X R : Nat → Prop} {D : Pl}
set_option maxRecDepth 10000 in
set_option maxHeartbeats 1000000 in
theorem add_any (id : Int) (bv : Value) (b : List UInt8) (w : World) (h : PAt w p X R D) (hid : id ≤ 9223372036854775807) (hb : Rv w bv b.length (b.map vB)) (hbl : b.length ≤ 1000000000) :
    Calls Try.prog 13 #[.pointer (some ⟨p, 0, none⟩), .agg #[.int .i64 id, bv]] w fun e w' => e = .returned (.int .i64 (D.add id b).1) ∧ ∃ X' R', PAt w' p X' R' (D.add id b).2 ∧ DStep X X' w w' ∧ (∀ x, R' x → R x ∨ w.heap.size ≤ x) := by
  obtain ⟨mb, wv, F, ks, B, TV, BV, AV, h⟩ := h
  obtain ⟨ao, cap, rfl, hcap, _⟩ := hb.opened
  obtain ⟨O, hO⟩ : ∃ O, D.add id b = O := ⟨_, rfl⟩
  rw [hO]
  unfold Pl.add at hO
  have HO := Bx.mk hO
  clear hO
  have hsame : (0, D) = O ∨ True := .inr trivial
  go_enter Try.func13, Try.ntmps13
  go_upto_region 1 with fail
  have B1 := (Below.refl w.heap.size w).alloc (Nat.le_refl _) (.cells #[.int .i64 id, .slice ao b.length cap] 37)
  have t0 : (w.alloc (.cells #[.int .i64 id, .slice ao b.length cap] 37)).cell? ⟨w.heap.size, 0, none⟩ = some (.int .i64 id) := by simp [go_sem]
  have t1 : (w.alloc (.cells #[.int .i64 id, .slice ao b.length cap] 37)).cell? ⟨w.heap.size, 1, none⟩ = some (.slice ao b.length cap) := by simp [go_sem]
  have hs1 : (w.alloc (.cells #[.int .i64 id, .slice ao b.length cap] 37)).heap.size = w.heap.size + 1 := World.size_alloc _ _
  obtain ⟨w1, hw1⟩ : ∃ W, w.alloc (.cells #[.int .i64 id, .slice ao b.length cap] 37) = W := ⟨_, rfl⟩
  rw [hw1] at B1 t0 t1 hs1 ⊢
  have H1 := h.later B1
  have hmb0 := h.xl mb h.xm
  have S1 := DStep.ofBelow X B1
  have c3 := H1.c3
  have hlen := H1.map.len (P := Try.prog) (K := 3) (e := 99) Try.underlyingPM 3
  have hlk := H1.look id true
  have hcnt := H1.count.length_eq
  rw [hcnt] at hlen
  have hid1 := H1.ok.many
  have hfind := H1.find id
  have b1 := hb.below B1
  obtain ⟨m, hm⟩ : ∃ m, D.ids.length = m := ⟨_, rfl⟩
  rw [hm] at hlen hid1
  have HM := Bx.mk hm
  have HH := Bx.mk H1
  clear hw1 hb h hcnt hsame hm
  by_cases hneg : id < 0
  · have hO := HO.out
    rw [if_pos hneg] at hO
    clear HO hlk hlen
    go_wp2_with fail
    go_ret
    rw [← hO]
    exact ⟨rfl, X, R, ⟨_, _, _, _, _, _, _, _, HH.out⟩, S1, fun _ h => .inl h⟩
  · have hO := HO.out
    rw [if_neg hneg] at hO
    have HO1 := Bx.mk hO
    clear hO HO
    by_cases hl : 65536 < b.length
    · have hO := HO1.out
      rw [if_pos (.inl hl)] at hO
      have hlI : (65536 : Int) < (b.length : Int) := by omega
      clear HO1 hlk hlen
      go_wp2_with fail
      go_ret
      rw [← hO]
      exact ⟨rfl, X, R, ⟨_, _, _, _, _, _, _, _, HH.out⟩, S1, fun _ h => .inl h⟩
    · have hlI : ¬ (65536 : Int) < (b.length : Int) := by omega
      by_cases hm : 1024 ≤ m
      · have hO := HO1.out
        rw [if_pos (.inr (by rw [HM.out]; exact hm))] at hO
        have hmI : (1024 : Int) ≤ (m : Int) := by omega
        clear HO1 hlk
        go_wp2_with fail
        go_ret
        rw [← hO]
        exact ⟨rfl, X, R, ⟨_, _, _, _, _, _, _, _, HH.out⟩, S1, fun _ h => .inl h⟩
      · have hmI : ¬ (1024 : Int) ≤ (m : Int) := by omega
        have hO := HO1.out
        rw [if_neg (fun h => h.elim hl (fun h => by rw [HM.out] at h; exact hm h))] at hO
        have lkd := fun W hW => H1.look id true W hW
        have LKD := Bx.mk lkd
        have B1d := (Below.refl w1.heap.size w1).drew
        cases hts : D.ts id with
        | some e =>
          rw [hts] at hO hfind
          have lk := LKD.out w1.drew rfl
          rw [hfind] at lk
          obtain ⟨fv, hfv⟩ : ∃ v, (F id).getD (.pointer none) = v := ⟨_, rfl⟩
          rw [hfv] at lk
          change (Instr.lookup _ _ _ true).run _ _ = .ok (.tuple #[fv, .bool true]) _ at lk
          clear HO1 hlk lkd LKD hfv
          have c3d : w1.drew.cell? ⟨p, 3, none⟩ = some (.map (some mb)) := c3
          have t0d : w1.drew.cell? ⟨w.heap.size, 0, none⟩ = some (.int .i64 id) := t0
          have s0 := And.intro c3d (And.intro t0d lk)
          go_upto_region 5 with fail
          refine wp_region_held_drew (S := fun W => W.cell? ⟨p, 3, none⟩ = some (.map (some mb)) ∧ W.cell? ⟨w.heap.size, 0, none⟩ = some (.int .i64 id) ∧ (Instr.lookup 96 (.map (some mb)) (.int .i64 id) true).run Try.prog W = .ok (.tuple #[fv, .bool true]) W) (by kernel_rfl) s0 (fun _ => ?_)
          refine wpAnyH_do 0 23 rfl rfl (by kernel_rfl) (by kernel_rfl) (by kernel_rfl) (fun _ _ _ _ _ h => h) (by kernel_rfl) (fun W hS => by (obtain ⟨s1, s2, s3⟩ := hS); go_simp; try with_reducible rfl) s0 ?_
          simp only [List.setIfInBounds_toArray, List.set_cons_succ, List.set_cons_zero]
          refine wpAnyH_do 1 24 rfl rfl (by kernel_rfl) (by kernel_rfl) (by kernel_rfl) (fun _ _ _ _ _ h => h) (by kernel_rfl) (fun W hS => by (obtain ⟨s1, s2, s3⟩ := hS); go_simp; try with_reducible rfl) s0 ?_
          simp only [List.setIfInBounds_toArray, List.set_cons_succ, List.set_cons_zero]
          refine wpAnyH_do 2 25 rfl rfl (by kernel_rfl) (by kernel_rfl) (by kernel_rfl) (fun _ _ _ _ _ h => h) (by kernel_rfl) (fun W hS => by (obtain ⟨s1, s2, s3⟩ := hS); go_simp; try with_reducible rfl) s0 ?_
          simp only [List.setIfInBounds_toArray, List.set_cons_succ, List.set_cons_zero]
          refine wpAnyH_do 3 26 rfl rfl (by kernel_rfl) (by kernel_rfl) (by kernel_rfl) (fun _ _ _ _ _ h => h) (by kernel_rfl) (fun W hS => by (obtain ⟨s1, s2, s3⟩ := hS); go_simp; try with_reducible rfl) s0 ?_
          simp only [List.setIfInBounds_toArray, List.set_cons_succ, List.set_cons_zero]
          refine wpAnyH_do 4 27 rfl rfl (by kernel_rfl) (by kernel_rfl) (by kernel_rfl) (fun _ _ _ _ _ h => h) (by kernel_rfl) (fun W hS => by (obtain ⟨s1, s2, s3⟩ := hS); go_simp; try with_reducible rfl) s0 ?_
          simp only [List.setIfInBounds_toArray, List.set_cons_succ, List.set_cons_zero]
          refine wpAnyH_do 5 28 rfl rfl (by kernel_rfl) (by kernel_rfl) (by kernel_rfl) (fun _ _ _ _ _ h => h) (by kernel_rfl) (fun W hS => by (obtain ⟨s1, s2, s3⟩ := hS); go_simp; try with_reducible rfl) s0 ?_
          simp only [List.setIfInBounds_toArray, List.set_cons_succ, List.set_cons_zero]
          refine wpAnyH_do 6 29 rfl rfl (by kernel_rfl) (by kernel_rfl) (by kernel_rfl) (fun _ _ _ _ _ h => h) (by kernel_rfl) (fun W hS => by (obtain ⟨s1, s2, s3⟩ := hS); go_simp; try with_reducible rfl) s0 ?_
          simp only [List.setIfInBounds_toArray, List.set_cons_succ, List.set_cons_zero]
          refine wpAnyH_do 7 22 rfl rfl (by kernel_rfl) (by kernel_rfl) (by kernel_rfl) (fun _ _ _ _ _ h => h) (by kernel_rfl) (fun W hS => by (obtain ⟨s1, s2, s3⟩ := hS); go_simp; try with_reducible rfl) s0 ?_
          simp only [List.setIfInBounds_toArray, List.set_cons_succ, List.set_cons_zero]
          refine wpAnyH_do 8 30 rfl rfl (by kernel_rfl) (by kernel_rfl) (by kernel_rfl) (fun _ _ _ _ _ h => h) (by kernel_rfl) (fun W hS => by (obtain ⟨s1, s2, s3⟩ := hS); go_simp; try with_reducible rfl) s0 ?_
          simp only [List.setIfInBounds_toArray, List.set_cons_succ, List.set_cons_zero]
          refine wpAnyH_do 9 31 rfl rfl (by kernel_rfl) (by kernel_rfl) (by kernel_rfl) (fun _ _ _ _ _ h => h) (by kernel_rfl) (fun W hS => by (obtain ⟨s1, s2, s3⟩ := hS); go_simp; try with_reducible rfl) s0 ?_
          simp only [List.setIfInBounds_toArray, List.set_cons_succ, List.set_cons_zero]
          refine wpAnyH_do 10 5 rfl rfl (by kernel_rfl) (by kernel_rfl) (by kernel_rfl) (fun _ _ _ _ _ h => h) (by kernel_rfl) (fun W hS => by (obtain ⟨s1, s2, s3⟩ := hS); go_simp; try with_reducible rfl) s0 ?_
          simp only [List.setIfInBounds_toArray, List.set_cons_succ, List.set_cons_zero]
          refine wpAnyH_do 11 6 rfl rfl (by kernel_rfl) (by kernel_rfl) (by kernel_rfl) (fun _ _ _ _ _ h => h) (by kernel_rfl) (fun W hS => by (obtain ⟨s1, s2, s3⟩ := hS); go_simp; try with_reducible rfl) s0 ?_
          simp only [List.setIfInBounds_toArray, List.set_cons_succ, List.set_cons_zero]
          refine wpAnyH_done (by kernel_rfl) ?_ _
          have HH2 := Bx.mk (HH.out.later B1d)
          have S2 := S1.trans (DStep.ofBelow X B1d)
          generalize w1.drew = w2 at *
          go_wp2_with fail
          go_ret
          rw [← hO]
          exact ⟨rfl, X, R, ⟨_, _, _, _, _, _, _, _, HH2.out⟩, S2, fun _ h => .inl h⟩
        | none =>
          rw [hts] at hO hfind
          have lk := LKD.out w1.drew rfl
          rw [hfind] at lk
          obtain ⟨fv, hfv⟩ : ∃ v, (F id).getD (.pointer none) = v := ⟨_, rfl⟩
          rw [hfv] at lk
          change (Instr.lookup _ _ _ true).run _ _ = .ok (.tuple #[fv, .bool false]) _ at lk
          clear HO1 hlk lkd LKD hfv
          have c3d : w1.drew.cell? ⟨p, 3, none⟩ = some (.map (some mb)) := c3
          have t0d : w1.drew.cell? ⟨w.heap.size, 0, none⟩ = some (.int .i64 id) := t0
          have t1d : w1.drew.cell? ⟨w.heap.size, 1, none⟩ = some (.slice ao b.length cap) := t1
          have s0 := And.intro c3d (And.intro t0d lk)
          go_upto_region 5 with fail
          refine wp_region_held_drew (S := fun W => W.cell? ⟨p, 3, none⟩ = some (.map (some mb)) ∧ W.cell? ⟨w.heap.size, 0, none⟩ = some (.int .i64 id) ∧ (Instr.lookup 96 (.map (some mb)) (.int .i64 id) true).run Try.prog W = .ok (.tuple #[fv, .bool false]) W) (by kernel_rfl) s0 (fun _ => ?_)
          refine wpAnyH_do 0 23 rfl rfl (by kernel_rfl) (by kernel_rfl) (by kernel_rfl) (fun _ _ _ _ _ h => h) (by kernel_rfl) (fun W hS => by (obtain ⟨s1, s2, s3⟩ := hS); go_simp; try with_reducible rfl) s0 ?_
          simp only [List.setIfInBounds_toArray, List.set_cons_succ, List.set_cons_zero]
          refine wpAnyH_do 1 24 rfl rfl (by kernel_rfl) (by kernel_rfl) (by kernel_rfl) (fun _ _ _ _ _ h => h) (by kernel_rfl) (fun W hS => by (obtain ⟨s1, s2, s3⟩ := hS); go_simp; try with_reducible rfl) s0 ?_
          simp only [List.setIfInBounds_toArray, List.set_cons_succ, List.set_cons_zero]
          refine wpAnyH_do 2 25 rfl rfl (by kernel_rfl) (by kernel_rfl) (by kernel_rfl) (fun _ _ _ _ _ h => h) (by kernel_rfl) (fun W hS => by (obtain ⟨s1, s2, s3⟩ := hS); go_simp; try with_reducible rfl) s0 ?_
          simp only [List.setIfInBounds_toArray, List.set_cons_succ, List.set_cons_zero]
          refine wpAnyH_do 3 26 rfl rfl (by kernel_rfl) (by kernel_rfl) (by kernel_rfl) (fun _ _ _ _ _ h => h) (by kernel_rfl) (fun W hS => by (obtain ⟨s1, s2, s3⟩ := hS); go_simp; try with_reducible rfl) s0 ?_
          simp only [List.setIfInBounds_toArray, List.set_cons_succ, List.set_cons_zero]
          refine wpAnyH_do 4 27 rfl rfl (by kernel_rfl) (by kernel_rfl) (by kernel_rfl) (fun _ _ _ _ _ h => h) (by kernel_rfl) (fun W hS => by (obtain ⟨s1, s2, s3⟩ := hS); go_simp; try with_reducible rfl) s0 ?_
          simp only [List.setIfInBounds_toArray, List.set_cons_succ, List.set_cons_zero]
          refine wpAnyH_do 5 28 rfl rfl (by kernel_rfl) (by kernel_rfl) (by kernel_rfl) (fun _ _ _ _ _ h => h) (by kernel_rfl) (fun W hS => by (obtain ⟨s1, s2, s3⟩ := hS); go_simp; try with_reducible rfl) s0 ?_
          simp only [List.setIfInBounds_toArray, List.set_cons_succ, List.set_cons_zero]
          refine wpAnyH_do 6 29 rfl rfl (by kernel_rfl) (by kernel_rfl) (by kernel_rfl) (fun _ _ _ _ _ h => h) (by kernel_rfl) (fun W hS => by (obtain ⟨s1, s2, s3⟩ := hS); go_simp; try with_reducible rfl) s0 ?_
          simp only [List.setIfInBounds_toArray, List.set_cons_succ, List.set_cons_zero]
          refine wpAnyH_do 7 22 rfl rfl (by kernel_rfl) (by kernel_rfl) (by kernel_rfl) (fun _ _ _ _ _ h => h) (by kernel_rfl) (fun W hS => by (obtain ⟨s1, s2, s3⟩ := hS); go_simp; try with_reducible rfl) s0 ?_
          simp only [List.setIfInBounds_toArray, List.set_cons_succ, List.set_cons_zero]
          refine wpAnyH_do 8 30 rfl rfl (by kernel_rfl) (by kernel_rfl) (by kernel_rfl) (fun _ _ _ _ _ h => h) (by kernel_rfl) (fun W hS => by (obtain ⟨s1, s2, s3⟩ := hS); go_simp; try with_reducible rfl) s0 ?_
          simp only [List.setIfInBounds_toArray, List.set_cons_succ, List.set_cons_zero]
          refine wpAnyH_do 9 31 rfl rfl (by kernel_rfl) (by kernel_rfl) (by kernel_rfl) (fun _ _ _ _ _ h => h) (by kernel_rfl) (fun W hS => by (obtain ⟨s1, s2, s3⟩ := hS); go_simp; try with_reducible rfl) s0 ?_
          simp only [List.setIfInBounds_toArray, List.set_cons_succ, List.set_cons_zero]
          refine wpAnyH_do 10 5 rfl rfl (by kernel_rfl) (by kernel_rfl) (by kernel_rfl) (fun _ _ _ _ _ h => h) (by kernel_rfl) (fun W hS => by (obtain ⟨s1, s2, s3⟩ := hS); go_simp; try with_reducible rfl) s0 ?_
          simp only [List.setIfInBounds_toArray, List.set_cons_succ, List.set_cons_zero]
          refine wpAnyH_do 11 6 rfl rfl (by kernel_rfl) (by kernel_rfl) (by kernel_rfl) (fun _ _ _ _ _ h => h) (by kernel_rfl) (fun W hS => by (obtain ⟨s1, s2, s3⟩ := hS); go_simp; try with_reducible rfl) s0 ?_
          simp only [List.setIfInBounds_toArray, List.set_cons_succ, List.set_cons_zero]
          refine wpAnyH_done (by kernel_rfl) ?_ _
          have H2 := HH.out.later B1d
          have S2 := S1.trans (DStep.ofBelow X B1d)
          have b2 := b1.below B1d
          have hs2 : w1.drew.heap.size = w.heap.size + 1 := hs1
          generalize w1.drew = w2 at *
          have HH2 := Bx.mk H2
          clear c3 t0 t1 B1 H1 S1 b1 HH hlen B1d lk
          have B2d := (Below.refl w2.heap.size w2).drew
          have H2d := H2.later B2d
          have c3d : w2.drew.cell? ⟨p, 3, none⟩ = some (.map (some mb)) := c3d
          have t0d : w2.drew.cell? ⟨w.heap.size, 0, none⟩ = some (.int .i64 id) := t0d
          have t1d : w2.drew.cell? ⟨w.heap.size, 1, none⟩ = some (.slice ao b.length cap) := t1d
          have s0 := And.intro c3d (And.intro t0d t1d)
          go_upto_region 8 with fail
          refine wp_region_held_drew (S := fun W => W.cell? ⟨p, 3, none⟩ = some (.map (some mb)) ∧ W.cell? ⟨w.heap.size, 0, none⟩ = some (.int .i64 id) ∧ W.cell? ⟨w.heap.size, 1, none⟩ = some (.slice ao b.length cap)) (by kernel_rfl) s0 (fun _ => ?_)
          refine wpAnyH_do 0 33 rfl rfl (by kernel_rfl) (by kernel_rfl) (by kernel_rfl) (fun _ _ _ _ _ h => h) (by kernel_rfl) (fun W hS => by (obtain ⟨s1, s2, s3⟩ := hS); go_simp; try with_reducible rfl) s0 ?_
          simp only [List.setIfInBounds_toArray, List.set_cons_succ, List.set_cons_zero]
          refine wpAnyH_do 1 34 rfl rfl (by kernel_rfl) (by kernel_rfl) (by kernel_rfl) (fun _ _ _ _ _ h => h) (by kernel_rfl) (fun W hS => by (obtain ⟨s1, s2, s3⟩ := hS); go_simp; try with_reducible rfl) s0 ?_
          simp only [List.setIfInBounds_toArray, List.set_cons_succ, List.set_cons_zero]
          refine wpAnyH_do 2 35 rfl rfl (by kernel_rfl) (by kernel_rfl) (by kernel_rfl) (fun _ _ _ _ _ h => h) (by kernel_rfl) (fun W hS => by (obtain ⟨s1, s2, s3⟩ := hS); go_simp; try with_reducible rfl) s0 ?_
          simp only [List.setIfInBounds_toArray, List.set_cons_succ, List.set_cons_zero]
          refine wpAnyH_do 3 36 rfl rfl (by kernel_rfl) (by kernel_rfl) (by kernel_rfl) (fun _ _ _ _ _ h => h) (by kernel_rfl) (fun W hS => by (obtain ⟨s1, s2, s3⟩ := hS); go_simp; try with_reducible rfl) s0 ?_
          simp only [List.setIfInBounds_toArray, List.set_cons_succ, List.set_cons_zero]
          refine wpAnyH_do 4 37 rfl rfl (by kernel_rfl) (by kernel_rfl) (by kernel_rfl) (fun _ _ _ _ _ h => h) (by kernel_rfl) (fun W hS => by (obtain ⟨s1, s2, s3⟩ := hS); go_simp; try with_reducible rfl) s0 ?_
          simp only [List.setIfInBounds_toArray, List.set_cons_succ, List.set_cons_zero]
          refine wpAnyH_do 5 38 rfl rfl (by kernel_rfl) (by kernel_rfl) (by kernel_rfl) (fun _ _ _ _ _ h => h) (by kernel_rfl) (fun W hS => by (obtain ⟨s1, s2, s3⟩ := hS); go_simp; try with_reducible rfl) s0 ?_
          simp only [List.setIfInBounds_toArray, List.set_cons_succ, List.set_cons_zero]
          refine wpAnyH_do 6 39 rfl rfl (by kernel_rfl) (by kernel_rfl) (by kernel_rfl) (fun _ _ _ _ _ h => h) (by kernel_rfl) (fun W hS => by (obtain ⟨s1, s2, s3⟩ := hS); go_simp; try with_reducible rfl) s0 ?_
          simp only [List.setIfInBounds_toArray, List.set_cons_succ, List.set_cons_zero]
          refine wpAnyH_do 7 40 rfl rfl (by kernel_rfl) (by kernel_rfl) (by kernel_rfl) (fun _ _ _ _ _ h => h) (by kernel_rfl) (fun W hS => by (obtain ⟨s1, s2, s3⟩ := hS); go_simp; try with_reducible rfl) s0 ?_
          simp only [List.setIfInBounds_toArray, List.set_cons_succ, List.set_cons_zero]
          refine wpAnyH_one 8 rfl (by kernel_rfl) (by kernel_rfl) (fun K hK => ?_)
          go_simp
          refine (cloneB_any (.slice ao b.length cap) b w2.drew (b2.below B2d) hbl).mono ?_
          rintro e w3 ⟨v3, rfl, M3⟩
          have h1mb : mb < w.heap.size := hmb0
          have B3 : Below w2.heap.size w2 w3 := B2d.trans (M3.2.mono (Nat.le_refl _))
          have O3 := M3.1
          rw [List.length_map] at O3
          obtain ⟨a3, c3v, rfl⟩ := own_isSlice O3
          have HRB := Bx.mk (show ∀ x, (Value.slice a3 b.length c3v).ownBlock = some x → w.heap.size ≤ x from fun x hx => by have h1 := (O3.lt x hx).1; have h2 : w2.drew.heap.size = w2.heap.size := rfl; omega)
          have c33 := (B3.cell (p := ⟨p, 3, none⟩) (World.block_lt_of_cell? _ _ c3d)).trans c3d
          have t03 := (B3.cell (p := ⟨w.heap.size, 0, none⟩) (World.block_lt_of_cell? _ _ t0d)).trans t0d
          have t13 := (B3.cell (p := ⟨w.heap.size, 1, none⟩) (World.block_lt_of_cell? _ _ t1d)).trans t1d
          have s3 := And.intro c33 (And.intro t03 t13)
          refine hK _ _ s3 ?_
          clear hK
          refine wpAnyH_do 9 42 rfl rfl (by kernel_rfl) (by kernel_rfl) (by kernel_rfl) (fun _ _ _ _ _ h => h) (by kernel_rfl) (fun W hS => by (obtain ⟨s1, s2, s3⟩ := hS); go_simp; try with_reducible rfl) s3 ?_
          simp only [List.setIfInBounds_toArray, List.set_cons_succ, List.set_cons_zero]
          refine wpAnyH_one 10 rfl (by kernel_rfl) (by kernel_rfl) (fun K hK => ?_)
          go_simp
          have hb4 := World.alloc_heap_new w3 (enO (freshE b) (.slice a3 b.length c3v) (.slice none 0 0) (.slice none 0 0))
          have B4 := (Below.refl w3.heap.size w3).alloc (Nat.le_refl _) (enO (freshE b) (.slice a3 b.length c3v) (.slice none 0 0) (.slice none 0 0))
          have hs4 : (w3.alloc (enO (freshE b) (.slice a3 b.length c3v) (.slice none 0 0) (.slice none 0 0))).heap.size = w3.heap.size + 1 := World.size_alloc _ _
          change (w3.alloc (.cells #[.slice a3 b.length c3v, .slice none 0 0, .bool false, .bool false, .int .i64 0, .int .i64 0, .int .i64 0, .slice none 0 0] 103)).heap[w3.heap.size]? = _ at hb4
          change Below _ _ (w3.alloc (.cells #[.slice a3 b.length c3v, .slice none 0 0, .bool false, .bool false, .int .i64 0, .int .i64 0, .int .i64 0, .slice none 0 0] 103)) at B4
          change (w3.alloc (.cells #[.slice a3 b.length c3v, .slice none 0 0, .bool false, .bool false, .int .i64 0, .int .i64 0, .int .i64 0, .slice none 0 0] 103)).heap.size = _ at hs4
          obtain ⟨w4, hw4⟩ : ∃ W, w3.alloc (.cells #[.slice a3 b.length c3v, .slice none 0 0, .bool false, .bool false, .int .i64 0, .int .i64 0, .int .i64 0, .slice none 0 0] 103) = W := ⟨_, rfl⟩
          rw [hw4] at hb4 B4 hs4 ⊢
          have B24 := bel B3 B4
          have hz3 := B3.size
          have c34 := (B4.cell (p := ⟨p, 3, none⟩) (World.block_lt_of_cell? _ _ c33)).trans c33
          have t04 := (B4.cell (p := ⟨w.heap.size, 0, none⟩) (World.block_lt_of_cell? _ _ t03)).trans t03
          have t14 := (B4.cell (p := ⟨w.heap.size, 1, none⟩) (World.block_lt_of_cell? _ _ t13)).trans t13
          have M4 := HH2.out.map.kept (w' := w4) (B24.block mb (HH2.out.xl mb HH2.out.xm))
          have hmbl := HH2.out.xl mb HH2.out.xm
          have hpm : p ≠ mb := kind_ne HH2.out.kp HH2.out.km (by decide)
          have hml : mb ≠ w.heap.size := by
            have := h1mb
            omega
          refine hK _ _ (And.intro c34 (And.intro t04 t14)) ?_
          clear hK
          refine wpAnyH_one 11 rfl (by kernel_rfl) (by kernel_rfl) (fun K hK => ?_)
          refine opUpd _ _ _ rfl Try.underlyingPM (by kernel_rfl) rfl rfl rfl M4 ?_
          intro w5 M5 g5 hs5
          have k5 : ∀ x, x < w4.heap.size → x ≠ mb → w5.heap[x]? = w4.heap[x]? := fun x hx hn => g5.block x hx (fun e => hn (by injection e))
          have cc : ∀ x j u, x ≠ mb → w4.cell? ⟨x, j, none⟩ = some u → w5.cell? ⟨x, j, none⟩ = some u := fun x j u hn hc => by
            have := k5 x (World.block_lt_of_cell? _ _ hc) hn
            unfold World.cell? at hc ⊢
            rw [this]
            exact hc
          refine hK _ _ (And.intro (cc _ _ _ hpm c34) (And.intro (cc _ _ _ (fun e => hml e.symm) t04) (cc _ _ _ (fun e => hml e.symm) t14))) ?_
          clear hK
          refine wpAnyH_done (by kernel_rfl) ?_ _
          have hlen65 : b.length ≤ 65536 := by omega
          have okD := ok_add HH2.out.ok (id := id) (b := b) ⟨by omega, hid⟩ hlen65 (by rw [HM.out]; omega) hts
          have H5 := HH2.out.insert (w' := w5) (id := id) (b := b) (eb := w3.heap.size) (bv := .slice a3 b.length c3v) hts okD rfl M5 ((k5 _ (by omega) (by omega)).trans hb4) (by omega) (by omega) (fun x hx hn => (k5 x (by omega) hn).trans (B24.block x hx))
            (by
              have r3 := Rv.of_own O3
              have r4 := r3.below B4
              exact rvSame r4 (fun g hg hv => k5 g hg (fun e => by have := (O3.lt g hv).1; have h2 : w2.drew.heap.size = w2.heap.size := rfl; omega)))
            (fun g hg => by have h1 := O3.lt g hg; have h2 : w2.drew.heap.size = w2.heap.size := rfl; omega)
          have S5 : DStep X (fun x => X x ∨ x = w3.heap.size) w2 w5 := ⟨g5.os.trans B24.os, g5.tape.trans B24.tape, g5.output.trans B24.output, by have := B24.size; omega, fun x hx hX => (k5 x (by have := B24.size; omega) (fun e => hX (by rw [e]; exact HH2.out.xm))).trans (B24.block x hx), fun x hx => hx.elim .inl (fun e => .inr (by omega))⟩
          clear M5 M4 g5 k5 cc c34 t04 t14 hb4 B4 hw4 O3
          go_wp2_with fail
          go_ret
          rw [← hO]
          exact ⟨rfl, _, _, ⟨_, _, _, _, _, _, _, _, H5⟩, S2.trans S5, fun x hx => hx.elim .inl (fun e => .inr (by have := HRB.out x e; omega))⟩
end
end Go.Proofs.Ytfdacckkdjpjhaa
