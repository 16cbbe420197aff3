/- The law DiskRuns. -/
import Derived.Test.YtmofakcpldbbmaaMdN
namespace Go.Proofs.Ytmofakcpldbbmaa
open Go.RowKit

set_option linter.unusedSimpArgs false in
set_option maxRecDepth 20000 in
set_option maxHeartbeats 2000000 in
theorem law_DiskRuns (room : Int) (v : Value) (l : List Int) (w : World) (hr : -9223372036854775808 ≤ room ∧ room ≤ 9223372036854775807) (hv : Rv w v l.length (l.map (Value.int .i64))) (hx : ∀ x ∈ l, -9223372036854775808 ≤ x ∧ x ≤ 9223372036854775807) :
    Calls Try.prog 6 #[.int .i64 room, v] w fun e w' => e = .returned (.bool true) ∧ Below w.heap.size w w' := by
  obtain ⟨av, cv, rfl, _, _⟩ := hv.opened
  have HR := Bx.mk hr
  have HX := Bx.mk hx
  clear hr hx
  go_enter Try.func6, Try.ntmps6
  go_wp2_with fail
  refine (around_nat room 40 (by omega) HR.out.1 HR.out.2 (by omega) _).mono ?_
  rintro e w1 ⟨n, hn, _, rfl, rfl⟩
  go_wp2_with fail
  refine (dnew _ (12 + (n : Int)) (by omega) (by omega)).mono ?_
  rintro e w1 ⟨p, X, rfl, D1, hX, B1⟩
  go_wp2_with fail
  refine (mnew_any (12 + (n : Int)) (by omega) (by omega) w1).mono ?_
  rintro e w2 ⟨q, Y, rfl, M2, hY, B2⟩
  have D2 := D1.later B2
  have B2' := bel B1 B2
  go_wp2_with fail
  refine (ops_any _ l w2 (hv.below B2') HX.out).mono ?_
  rintro e w3 ⟨v3, L, rfl, O3, hL, B3⟩
  have B3' := bel B2' B3
  have hs2 := B2'.size
  have hs1 := B1.size
  have P3 : Pair w.heap.size w3 p q (newD (12 + (n : Int))) (newD (12 + (n : Int))) v3 L := ⟨X, Y, D2.later B3, M2.later B3, fun b hx hy => by
    have h1 := D1.xl b hx
    have h2 := hY b hy
    omega, ⟨_, O3⟩, OsOff.new O3 D2.xl, OsOff.new O3 M2.yl, hX, fun b hb => by have := hY b hb; omega⟩
  obtain ⟨a3, c3, rfl⟩ := P3.slice
  obtain ⟨Ln, hLn⟩ : ∃ n, L.length = n := ⟨_, rfl⟩
  rw [hLn] at P3 hL ⊢
  have HL := Bx.mk hLn
  clear D1 hX B1 M2 hY B2 D2 B2' O3 B3 hLn hs1 hs2 hn
  go_wp2_with fail
  go_loopw [10] (fun u W => ∃ (i : Nat) (D : Dk), u = .int .i64 (i : Int) ∧ i ≤ Ln ∧ Pair w.heap.size W p q D D (.slice a3 Ln c3) L ∧ Below w.heap.size w W) (fun u _ => Ln - (intOf u).toNat)
  case atStart => exact ⟨0, _, rfl, Nat.zero_le _, P3, B3'⟩
  case round =>
    rename World => W
    obtain ⟨i, D, rfl, hi, P, B⟩ := hrel
    by_cases hlt : i < Ln
    · have hlti : (i : Int) < (Ln : Int) := by omega
      obtain ⟨o, ho⟩ : ∃ o, L[i]? = some o := ⟨_, List.getElem?_eq_getElem (by rw [HL.out]; exact hlt)⟩
      obtain ⟨g, c, e⟩ := P.slice1 (by rw [HL.out]; omega)
      injection e with e1 e2 e3
      clear e2
      subst e1
      have HO := Bx.mk ho
      clear ho e3
      go_upto_region 10 with fail
      go_cut [53] from 35 to 53 (fun u wx => u = .bool false ∧ Pair w.heap.size wx p q (D.doOp o.o).2 (D.doOp o.o).2 (.slice (some ⟨g, 0, none⟩) Ln c3) L ∧ Below w.heap.size w wx)
      case first =>
        have P0 := P.later (Below.refl W.heap.size W).drew
        have s0 := P0.at HO.out
        have B0 := B.drew
        refine wp_region_held_drew (S := fun W' => W'.cell? ⟨g, i * 5, none⟩ = some (.int .i64 o.o.k) ∧ W'.cell? ⟨g, i * 5 + 1, none⟩ = some (.int .i64 o.o.f) ∧ W'.cell? ⟨g, i * 5 + 2, none⟩ = some (.int .i64 o.o.n) ∧ W'.cell? ⟨g, i * 5 + 3, none⟩ = some o.bv ∧ W'.cell? ⟨g, i * 5 + 4, none⟩ = some o.kv) (by kernel_rfl) s0 (fun _ => ?_)
        refine wpAnyH_do 0 35 rfl rfl (by kernel_rfl) (by kernel_rfl) (by kernel_rfl) (fun _ _ _ _ _ h => h) (by kernel_rfl) (fun W hS => by (obtain ⟨s1, s2, s3, s4, s5⟩ := hS); go_simp; try with_reducible rfl) s0 ?_
        simp only [List.setIfInBounds_toArray, List.set_cons_succ, List.set_cons_zero]
        refine wpAnyH_do 1 36 rfl rfl (by kernel_rfl) (by kernel_rfl) (by kernel_rfl) (fun _ _ _ _ _ h => h) (by kernel_rfl) (fun W hS => by (obtain ⟨s1, s2, s3, s4, s5⟩ := hS); go_simp; try with_reducible rfl) s0 ?_
        simp only [List.setIfInBounds_toArray, List.set_cons_succ, List.set_cons_zero]
        refine wpAnyH_do 2 37 rfl rfl (by kernel_rfl) (by kernel_rfl) (by kernel_rfl) (fun _ _ _ _ _ h => h) (by kernel_rfl) (fun W hS => by (obtain ⟨s1, s2, s3, s4, s5⟩ := hS); go_simp; try with_reducible rfl) s0 ?_
        simp only [List.setIfInBounds_toArray, List.set_cons_succ, List.set_cons_zero]
        refine wpAnyH_do 3 38 rfl rfl (by kernel_rfl) (by kernel_rfl) (by kernel_rfl) (fun _ _ _ _ _ h => h) (by kernel_rfl) (fun W hS => by (obtain ⟨s1, s2, s3, s4, s5⟩ := hS); go_simp; try with_reducible rfl) s0 ?_
        simp only [List.setIfInBounds_toArray, List.set_cons_succ, List.set_cons_zero]
        refine wpAnyH_do 4 39 rfl rfl (by kernel_rfl) (by kernel_rfl) (by kernel_rfl) (fun _ _ _ _ _ h => h) (by kernel_rfl) (fun W hS => by (obtain ⟨s1, s2, s3, s4, s5⟩ := hS); go_simp; try with_reducible rfl) s0 ?_
        simp only [List.setIfInBounds_toArray, List.set_cons_succ, List.set_cons_zero]
        refine wpAnyH_do 6 41 rfl rfl (by kernel_rfl) (by kernel_rfl) (by kernel_rfl) (fun _ _ _ _ _ h => h) (by kernel_rfl) (fun W hS => by (obtain ⟨s1, s2, s3, s4, s5⟩ := hS); go_simp; try with_reducible rfl) s0 ?_
        simp only [List.setIfInBounds_toArray, List.set_cons_succ, List.set_cons_zero]
        refine wpAnyH_do 7 42 rfl rfl (by kernel_rfl) (by kernel_rfl) (by kernel_rfl) (fun _ _ _ _ _ h => h) (by kernel_rfl) (fun W hS => by (obtain ⟨s1, s2, s3, s4, s5⟩ := hS); go_simp; try with_reducible rfl) s0 ?_
        simp only [List.setIfInBounds_toArray, List.set_cons_succ, List.set_cons_zero]
        refine wpAnyH_do 8 43 rfl rfl (by kernel_rfl) (by kernel_rfl) (by kernel_rfl) (fun _ _ _ _ _ h => h) (by kernel_rfl) (fun W hS => by (obtain ⟨s1, s2, s3, s4, s5⟩ := hS); go_simp; try with_reducible rfl) s0 ?_
        simp only [List.setIfInBounds_toArray, List.set_cons_succ, List.set_cons_zero]
        refine wpAnyH_do 9 44 rfl rfl (by kernel_rfl) (by kernel_rfl) (by kernel_rfl) (fun _ _ _ _ _ h => h) (by kernel_rfl) (fun W hS => by (obtain ⟨s1, s2, s3, s4, s5⟩ := hS); go_simp; try with_reducible rfl) s0 ?_
        simp only [List.setIfInBounds_toArray, List.set_cons_succ, List.set_cons_zero]
        refine wpAnyH_do 10 45 rfl rfl (by kernel_rfl) (by kernel_rfl) (by kernel_rfl) (fun _ _ _ _ _ h => h) (by kernel_rfl) (fun W hS => by (obtain ⟨s1, s2, s3, s4, s5⟩ := hS); go_simp; try with_reducible rfl) s0 ?_
        simp only [List.setIfInBounds_toArray, List.set_cons_succ, List.set_cons_zero]
        refine wpAnyH_one 5 rfl (by kernel_rfl) (by kernel_rfl) (fun K hK => ?_)
        go_simp
        refine (P0.do HO.out B0.size).mono ?_
        rintro e w4 ⟨rfl, P4, B4⟩
        have B4' := B0.trans B4
        have s4 := P4.at HO.out
        refine hK _ _ s4 ?_
        clear hK
        try simp only [Act.put, List.setIfInBounds_toArray, List.set_cons_zero, List.set_cons_succ]
        refine wpAnyH_one 11 rfl (by kernel_rfl) (by kernel_rfl) (fun K hK => ?_)
        go_simp
        refine (P4.mdo HO.out B4'.size).mono ?_
        rintro e w5 ⟨rfl, P5, B5⟩
        have B5' := B4'.trans B5
        have s5 := P5.at HO.out
        refine hK _ _ s5 ?_
        clear hK
        obtain ⟨R, hR⟩ : ∃ R, D.doOp o.o = R := ⟨_, rfl⟩
        rw [hR] at P5 ⊢
        have HRE := Bx.mk hR
        clear hR
        try simp only [Act.put, List.setIfInBounds_toArray, List.set_cons_zero, List.set_cons_succ]
        clear P0 P4 P s0 s4
        refine wpAnyH_do 12 47 rfl rfl (by kernel_rfl) (by kernel_rfl) (by kernel_rfl) (fun _ _ _ _ _ h => h) (by kernel_rfl) (fun W hS => by (obtain ⟨s1, s2, s3, s4, s5⟩ := hS); go_simp; try with_reducible rfl) s5 ?_
        simp only [List.setIfInBounds_toArray, List.set_cons_succ, List.set_cons_zero]
        refine wpAnyH_do 13 48 rfl rfl (by kernel_rfl) (by kernel_rfl) (by kernel_rfl) (fun _ _ _ _ _ h => h) (by kernel_rfl) (fun W hS => by (obtain ⟨s1, s2, s3, s4, s5⟩ := hS); go_simp; try with_reducible rfl) s5 ?_
        simp only [List.setIfInBounds_toArray, List.set_cons_succ, List.set_cons_zero]
        refine wpAnyH_do 14 49 rfl rfl (by kernel_rfl) (by kernel_rfl) (by kernel_rfl) (fun _ _ _ _ _ h => h) (by kernel_rfl) (fun W hS => by (obtain ⟨s1, s2, s3, s4, s5⟩ := hS); go_simp; try with_reducible rfl) s5 ?_
        simp only [List.setIfInBounds_toArray, List.set_cons_succ, List.set_cons_zero]
        refine wpAnyH_do 15 50 rfl rfl (by kernel_rfl) (by kernel_rfl) (by kernel_rfl) (fun _ _ _ _ _ h => h) (by kernel_rfl) (fun W hS => by (obtain ⟨s1, s2, s3, s4, s5⟩ := hS); go_simp; try with_reducible rfl) s5 ?_
        simp only [List.setIfInBounds_toArray, List.set_cons_succ, List.set_cons_zero]
        refine wpAnyH_one 16 rfl (by kernel_rfl) (by kernel_rfl) (fun K hK => ?_)
        go_simp
        have P5' := P5
        obtain ⟨X5, Y5, P6⟩ := P5'
        refine (same_any _ P6.d P6.m).mono ?_
        rintro e w6 ⟨rfl, B6⟩
        have P7 := P5.later B6
        have s6 := P7.at HO.out
        have B6' := bel B5' B6
        refine hK _ _ s6 ?_
        clear hK
        try simp only [Act.put, List.setIfInBounds_toArray, List.set_cons_zero, List.set_cons_succ]
        refine wpAnyH_do 17 52 rfl rfl (by kernel_rfl) (by kernel_rfl) (by kernel_rfl) (fun _ _ _ _ _ h => h) (by kernel_rfl) (fun W hS => by (obtain ⟨s1, s2, s3, s4, s5⟩ := hS); go_simp; try with_reducible rfl) s6 ?_
        simp only [List.setIfInBounds_toArray, List.set_cons_succ, List.set_cons_zero]
        refine wpAnyH_do 18 53 rfl rfl (by kernel_rfl) (by kernel_rfl) (by kernel_rfl) (fun _ _ _ _ _ h => h) (by kernel_rfl) (fun W hS => by (obtain ⟨s1, s2, s3, s4, s5⟩ := hS); go_simp; try with_reducible rfl) s6 ?_
        simp only [List.setIfInBounds_toArray, List.set_cons_succ, List.set_cons_zero]
        refine wpAnyH_done (by kernel_rfl) ?_ _
        have HREL := Bx.mk (And.intro P7 B6')
        clear P5 P6 P7 B6' s5 s6
        go_wp2_with fail
        go_meet
        rw [HRE.out]
        exact ⟨rfl, HREL.out⟩
      case rest =>
      obtain ⟨rfl, P5, B5⟩ := hcut
      clear P
      go_wp2_with fail
      go_roundw
      case rel => exact ⟨i + 1, _, by simp, hlt, P5, B5⟩
      case measure => simp [intOf]; omega
    · clear P
      go_wp2_with fail
      refine (lives30_any _).mono ?_
      rintro e w9 ⟨rfl, B9⟩
      have B9' := bel B B9
      go_wp2_with fail
      go_ret
      exact ⟨rfl, B9'⟩
end Go.Proofs.Ytmofakcpldbbmaa
