/- The law JournalRuns. -/
import Derived.Test.YtpehnggglolnoaaGreatJrD
import Derived.Deep.CutBlock
import Derived.Deep.CutRange
namespace Go.Proofs.YtpehnggglolnoaaGreat
open Go.RowKit

set_option linter.unusedSimpArgs false in
set_option maxRecDepth 20000 in
set_option maxHeartbeats 4000000 in
theorem law_JournalRuns (v : Value) (room : Int) (ops : List Int) (w : World) (hr : -9223372036854775808 ≤ room ∧ room ≤ 9223372036854775807) (hv : Rv w v ops.length (ops.map (Value.int .i64))) (hx : ∀ x ∈ ops, -9223372036854775808 ≤ x ∧ x ≤ 9223372036854775807) :
    Calls Tryz.prog 3 #[.int .i64 room, v] w (RetT w) := by
  obtain ⟨av, cv, rfl⟩ := rv_slice hv
  have HX := Bx.mk hx
  have HR := Bx.mk hr
  clear hx hr
  go_enter Tryz.func3, Tryz.ntmps3
  go_wp2_with fail
  refine (around_nat room 200 (by decide) HR.out.1 HR.out.2 (by decide) w).mono ?_
  rintro e w1 ⟨k0, hk0, _, rfl, rfl⟩
  obtain ⟨k, hk, hk1⟩ : ∃ k : Nat, k < 240 ∧ (40 : Int) + (k0 : Int) = (k : Int) := ⟨40 + k0, by omega, by omega⟩
  go_wp2_with fail
  clear hk1
  refine (fresh_any w (k : Int) (by omega) (by omega)).mono ?_
  rintro e w1 ⟨p, X, rfl, D1, lX, B1⟩
  go_wp2_with fail
  refine (mnew_any (k : Int) (by omega) (by omega) w1).mono ?_
  rintro e w2 ⟨q, Y, rfl, M2, lY, B2⟩
  have J2 : RSt w w2 p q X Y (newD (k : Int)) (newD (k : Int)) := ⟨⟨D1.later B2, lX, bel B1 B2⟩, M2, fun b hb => by have := lY b hb; have := B1.size; omega, fun b hb hy => by have := D1.xl b hb; have := lY b hy; omega⟩
  clear D1 lX B1 M2 lY B2 HR hk0
  go_wp2_with fail
  refine (ropen J2).mono ?_
  rintro e w3 ⟨lp, v3, X3, rfl, J3, S3, P3⟩
  go_wp2_with fail
  refine (rmopen J3).mono ?_
  rintro e w4 ⟨np, v4, rfl, J4, S4, P4⟩
  obtain ⟨L4, M, kM, a3, c3, a4, c4, rfl, rfl, _⟩ := rboth 0 J2 J3 S3 S4 (open_len J2.js.d.ok 2) P3 P4
  obtain ⟨⟨c, E, KK⟩, hE⟩ : ∃ T, (newD (k : Int)).logOpen 2 = T := ⟨_, rfl⟩
  rw [hE] at J4 ⊢
  clear J2 J3 S3 S4 P3 P4 hE
  go_wp2_with fail
  go_loopw [8, 10, 11, 13, 14] (fun lp ev np fv iv W => ∃ (i : Nat) (D : Dk) (X Y : Nat → Prop) (c : Int), iv = .int .i64 (i : Int) ∧ i ≤ 14 ∧ i ≤ ops.length ∧ ev = .int .i64 c ∧ fv = .int .i64 c ∧ RSt w W p q X Y D D ∧ RLg w W p q X Y lp np i) (fun _ _ _ _ iv _ => 14 - (intOf iv).toNat)
  case atStart => exact ⟨0, E, X3, Y, c, rfl, Nat.zero_le _, Nat.zero_le _, rfl, rfl, J4, L4⟩
  case round =>
    clear J4 L4
    rename World => W
    obtain ⟨i, D, X, Y, c, rfl, hi, hio, rfl, rfl, J, L⟩ := hrel
    by_cases hlt : i < 14 ∧ i < ops.length
    · obtain ⟨hi1, hi2⟩ := hlt
      have hI : (i : Int) < 14 := by omega
      have hO : (i : Int) < (ops.length : Int) := by omega
      obtain ⟨ib, io, rfl, hcx⟩ := ((hv.below J.js.be).rd).cell (i := i) (u := .int .i64 ops[i]) (by simp [hi2])
      have HX2 := Bx.mk (HX.out ops[i] (List.getElem_mem hi2))
      obtain ⟨op, hop⟩ : ∃ x, ops[i] = x := ⟨_, rfl⟩
      rw [hop] at hcx HX2
      obtain ⟨d8, hd8⟩ : ∃ x, op.tdiv 8 = x := ⟨_, rfl⟩
      have hd8r := tdiv8 op HX2.out
      rw [hd8] at hd8r
      have HI1 := Bx.mk hi1
      have HI2 := Bx.mk hi2
      have HIO := Bx.mk hio
      have HI := Bx.mk hi
      clear hop hi hio hi1 hi2
      go_wp2_with fail
      refine (around_nat d8 1048576 (by decide) hd8r.1 hd8r.2 (by decide) W).mono ?_
      rintro e w5 ⟨x, hx, _, rfl, rfl⟩
      have har := around_any op 8 (by decide) HX2.out.1 HX2.out.2 (by decide) W
      obtain ⟨kI, hkI⟩ : ∃ k, around op 8 = k := ⟨_, rfl⟩
      have hk0 := around_lo op 8 (by decide)
      have hk7 := around_hi op 8 (by decide)
      rw [hkI] at har hk0 hk7
      have hK : kI = 0 ∨ kI = 1 ∨ kI = 2 ∨ kI = 3 ∨ 4 ≤ kI := by omega
      have HAR := Bx.mk har
      have HK := Bx.mk hK
      clear hkI hk0 hk7 har hK hd8 hd8r HX2
      go_upto_region 12 with fail
      go_cut [68] from 43 to 196 (fun u wx => u = .bool false ∧ W = wx)
      case first =>
        rcases L with ⟨rfl, rfl⟩ | ⟨a, z, g, rfl, rfl, L, hg⟩
        all_goals
          go_wp2_with fail
          go_meet
          exact ⟨rfl, rfl⟩
      case rest =>
      obtain ⟨rfl, rfl⟩ := hcut
      go_wp2_with fail
      refine HAR.out.mono ?_
      rintro e w6 ⟨rfl, rfl⟩
      by_cases hn4 : 4 ≤ kI ∧ u8 = .pointer none ∧ u11 = .pointer none
      · obtain ⟨hn4, rfl, rfl⟩ := hn4
        have k0' : ¬ kI = 0 := by omega
        have k1' : ¬ kI = 1 := by omega
        have k2' : ¬ kI = 2 := by omega
        have k3' : ¬ kI = 3 := by omega
        clear HAR HK hn4
        go_wp2_with fail
        go_roundw
        case rel => exact ⟨i + 1, D, X, Y, c, by go_num, by have := HI1.out; omega, by have := HI2.out; omega, rfl, rfl, J, L.more⟩
        case measure => have := HI1.out; simp [intOf]; omega
      · have hK := HK.out
        clear HAR HK
        go_upto_block 2 with fail
        go_cut [8, 10, 11, 13, 16, 17, 18, 19] from 43 to 196 (fun lp ev np fv _ _ _ _ wx => ∃ (D : Dk) (X Y : Nat → Prop) (c : Int), ev = .int .i64 c ∧ fv = .int .i64 c ∧ RSt w wx p q X Y D D ∧ RLg w wx p q X Y lp np (i + 1))
        case first =>
          rcases hK with hK | hK | hK | hK | hK
          · subst hK
            go_wp2_with fail
            refine (darm W ((x : Int) % 5) (by omega) J.js.d).mono ?_
            rintro e w6 ⟨rfl, D6, S6⟩
            have J6 := J.stepD D6 S6
            have L6 := L.stepD S6
            clear D6 S6 J
            go_wp2_with fail
            refine (marm_any ((x : Int) % 5) (by omega) w6 J6.m).mono ?_
            rintro e w7 ⟨rfl, M7, S7⟩
            have J7 := J6.stepM M7 S7
            have L7 := L6.stepM S7
            obtain ⟨E7, hE7⟩ : ∃ T, D.arm ((x : Int) % 5) = T := ⟨_, rfl⟩
            rw [hE7] at J7
            clear M7 S7 J6 L6 hE7
            go_wp2_with fail
            go_meet
            exact ⟨E7, X, Y, _, rfl, rfl, J7, L7.more⟩
          · subst hK
            go_wp2_with fail
            have BA := (Below.refl W.heap.size W).alloc (Nat.le_refl _) (.cells #[.int .i64 ((x : Int) % 30)] 3)
            have J5 := J.later BA
            have R5 := Rv.lit W [.int .i64 ((x : Int) % 30)] 3 1 (by decide)
            have O5 := off_fresh J.js.d.xl 1 1
            have O5m := off_fresh J.m.yl 1 1
            refine (dcrash _ [(x : Int) % 30] _ _ (by omega) (fun y hy => by rw [List.mem_singleton.1 hy]; omega) J5.js.d R5 O5).mono ?_
            rintro e w6 ⟨rfl, D6, S6⟩
            have J6 := J5.stepD D6 S6
            have R6 := rv_step R5 S6 O5
            clear D6 S6 J5 R5 O5 BA
            go_wp2_with fail
            refine (mcrash_any [(x : Int) % 30] _ _ (by omega) (fun y hy => by rw [List.mem_singleton.1 hy]; omega) w6 J6.m R6 O5m).mono ?_
            rintro e w7 ⟨rfl, Y7, M7, S7⟩
            have J7 := J6.stepM M7 S7
            obtain ⟨E7, hE7⟩ : ∃ T, D.crash [(x : Int) % 30] ((x : Int) / 30 % 300 - 100) = T := ⟨_, rfl⟩
            rw [hE7] at J7
            clear M7 S7 J6 R6 O5m hE7 J
            go_wp2_with fail
            refine (ropen J7).mono ?_
            rintro e w8 ⟨lp8, v8, X8, rfl, J8, S8, P8⟩
            go_wp2_with fail
            refine (rmopen J8).mono ?_
            rintro e w9 ⟨np9, v9, rfl, J9, S9, P9⟩
            obtain ⟨L9, M9, k9, a8, c8, a9, c9, rfl, rfl, rfl, _⟩ := rboth i J7 J8 S8 S9 (open_len J7.js.d.ok 2) P8 P9
            obtain ⟨⟨cc, E9, KK⟩, hE9⟩ : ∃ T, E7.logOpen 2 = T := ⟨_, rfl⟩
            rw [hE9] at J9 ⊢
            clear J7 J8 S8 S9 P8 P9 hE9
            go_wp2_with fail
            go_meet
            exact ⟨E9, X8, Y7, _, rfl, rfl, J9, L9.more⟩
          · subst hK
            go_wp2_with fail
            have BA := (Below.refl W.heap.size W).alloc (Nat.le_refl _) (.cells #[.int .i64 ((x : Int) % 30)] 3)
            have J5 := J.later BA
            have R5 := Rv.lit W [.int .i64 ((x : Int) % 30)] 3 1 (by decide)
            have O5 := off_fresh J.js.d.xl 1 1
            have O5m := off_fresh J.m.yl 1 1
            refine (dcrash _ [(x : Int) % 30] _ _ (by omega) (fun y hy => by rw [List.mem_singleton.1 hy]; omega) J5.js.d R5 O5).mono ?_
            rintro e w6 ⟨rfl, D6, S6⟩
            have J6 := J5.stepD D6 S6
            have R6 := rv_step R5 S6 O5
            clear D6 S6 J5 R5 O5 BA
            go_wp2_with fail
            refine (mcrash_any [(x : Int) % 30] _ _ (by omega) (fun y hy => by rw [List.mem_singleton.1 hy]; omega) w6 J6.m R6 O5m).mono ?_
            rintro e w7 ⟨rfl, Y7, M7, S7⟩
            have J7 := J6.stepM M7 S7
            obtain ⟨E7, hE7⟩ : ∃ T, D.crash [(x : Int) % 30] ((x : Int) / 30 % 300 - 100) = T := ⟨_, rfl⟩
            rw [hE7] at J7
            clear M7 S7 J6 R6 O5m hE7 J
            go_wp2_with fail
            refine (ropen J7).mono ?_
            rintro e w8 ⟨lp8, v8, X8, rfl, J8, S8, P8⟩
            go_wp2_with fail
            refine (rmopen J8).mono ?_
            rintro e w9 ⟨np9, v9, rfl, J9, S9, P9⟩
            obtain ⟨L9, M9, k9, a8, c8, a9, c9, rfl, rfl, rfl, _⟩ := rboth i J7 J8 S8 S9 (open_len J7.js.d.ok 2) P8 P9
            obtain ⟨⟨cc, E9, KK⟩, hE9⟩ : ∃ T, E7.logOpen 2 = T := ⟨_, rfl⟩
            rw [hE9] at J9 ⊢
            clear J7 J8 S8 S9 P8 P9 hE9
            go_wp2_with fail
            go_meet
            exact ⟨E9, X8, Y7, _, rfl, rfl, J9, L9.more⟩
          · subst hK
            go_wp2_with fail
            refine (ropen J).mono ?_
            rintro e w8 ⟨lp8, v8, X8, rfl, J8, S8, P8⟩
            go_wp2_with fail
            refine (rmopen J8).mono ?_
            rintro e w9 ⟨np9, v9, rfl, J9, S9, P9⟩
            obtain ⟨L9, M9, k9, a8, c8, a9, c9, rfl, rfl, rfl, Q8, Q9⟩ := rboth i J J8 S8 S9 (open_len J.js.d.ok 2) P8 P9
            obtain ⟨⟨cc, E9, KK⟩, hE9⟩ : ∃ T, D.logOpen 2 = T := ⟨_, rfl⟩
            rw [hE9] at J9 ⊢
            have HS := Bx.mk (sameLists_refl (.slice a8 M9.length c8) (.slice a9 M9.length c9) M9 w9 Q8 Q9)
            clear J J8 S8 S9 P8 P9 hE9 Q8 Q9
            go_wp2_with fail
            refine HS.out.mono ?_
            rintro e w10 ⟨rfl, n10, h10⟩
            have B10 : Below w9.heap.size w9 w10 := by rw [h10]; exact belD (Below.refl _ _) _
            have J10 := J9.later B10
            have L10 := L9.later B10
            clear h10 B10 J9 L9 HS
            go_wp2_with fail
            go_meet
            exact ⟨E9, X8, Y, _, rfl, rfl, J10, L10.more⟩
          · have k0' : ¬ kI = 0 := by omega
            have k1' : ¬ kI = 1 := by omega
            have k2' : ¬ kI = 2 := by omega
            have k3' : ¬ kI = 3 := by omega
            rcases L with ⟨rfl, rfl⟩ | ⟨a, z, g, rfl, rfl, L, hg⟩
            · exact absurd ⟨by omega, rfl, rfl⟩ hn4
            · go_wp2_with fail
              have BA := (Below.refl W.heap.size W).alloc (Nat.le_refl _) (.cells #[.int .i64 (x : Int)] 3)
              have J5 := J.later BA
              have L5 := L.later BA
              refine (records_anyG _ [(x : Int)] _ (Rv.lit W [.int .i64 (x : Int)] 3 1 (by decide)) (fun y hy => by rw [List.mem_singleton.1 hy]; omega)).mono ?_
              rintro e w6 ⟨v6, us6, rfl, R6, U6, B6⟩
              have J6 := J5.later B6
              have L6 := L5.later B6
              obtain ⟨y, hy⟩ : ∃ y, recM [(x : Int)] = [y] := ⟨_, rfl⟩
              have hyl : y.length ≤ 10 := recM_mem [(x : Int)] y (by rw [hy]; simp)
              rw [hy] at R6
              have LX6 := LsX.of (X := fun b => (X b ∨ b = a) ∨ (Y b ∨ b = z)) R6 (Nat.le_refl _) U6 (fun b hb => hb.elim (fun h => h.elim (J5.js.d.xl b) (fun e => e ▸ L5.lg.lt)) (fun h => h.elim (J5.m.yl b) (fun e => e ▸ L5.ml.lt)))
              obtain ⟨b7, c7, u7, e7, hu7, hc7, R7⟩ := LX6.get 0 (by simp)
              have O7 := LX6.offs u7 hu7
              rw [e7]
              obtain ⟨au, cu, rfl⟩ := rv_slice R7
              change Rv w6 (.slice au y.length cu) y.length (y.map vB) at R7
              change Off (.slice au y.length cu) _ at O7
              change w6.cell? _ = some (.slice au y.length cu) at hc7
              have hgn : g.n ≤ 1000000000 := by have := HI1.out; omega
              clear R6 U6 BA J5 L5 B6 LX6 hu7 hy J L e7
              go_upto_region 17 with fail
              have J7 := J6.later (Below.refl _ _).drew
              have L7 := L6.later (Below.refl _ _).drew
              have R7 : Rv w6.drew (.slice au y.length cu) y.length (y.map vB) := R7
              refine wp_region_noPanic ?_
              refine wp_region_any (by kernel_rfl) ?_
              change wpAny _ _ _ _ _ _ _ (World.drew _)
              generalize w6.drew = w7 at J7 L7 R7 ⊢
              clear J6 L6 hc7
              refine wpAny_do 0 85 rfl rfl (by kernel_rfl) (by kernel_rfl) (by kernel_rfl) (fun _ _ _ _ _ h => h) (by kernel_rfl) (by intro w; go_simp; try with_reducible rfl) ?_
              simp only [List.setIfInBounds_toArray, List.set_cons_succ, List.set_cons_zero]
              refine wpAny_do 1 86 rfl rfl (by kernel_rfl) (by kernel_rfl) (by kernel_rfl) (fun _ _ _ _ _ h => h) (by kernel_rfl) (by intro w; go_simp; try with_reducible rfl) ?_
              simp only [List.setIfInBounds_toArray, List.set_cons_succ, List.set_cons_zero]
              refine wpAny_do 3 88 rfl rfl (by kernel_rfl) (by kernel_rfl) (by kernel_rfl) (fun _ _ _ _ _ h => h) (by kernel_rfl) (by intro w; go_simp; try with_reducible rfl) ?_
              simp only [List.setIfInBounds_toArray, List.set_cons_succ, List.set_cons_zero]
              refine wpAny_do 4 89 rfl rfl (by kernel_rfl) (by kernel_rfl) (by kernel_rfl) (fun _ _ _ _ _ h => h) (by kernel_rfl) (by intro w; go_simp; try with_reducible rfl) ?_
              simp only [List.setIfInBounds_toArray, List.set_cons_succ, List.set_cons_zero]
              refine wpAny_call 2 rfl (by kernel_rfl) (by kernel_rfl) (fun K hK => ?_)
              go_simp
              refine (rappend J7 L7 _ y R7 (by omega) hgn).mono ?_
              rintro e w8 ⟨rfl, X8, J8, L8, S8⟩
              have R8 := rv_step R7 S8 (fun b hb hx => O7 b hb (.inl hx))
              refine hK _ _ ?_
              clear hK
              refine wpAny_call 5 rfl (by kernel_rfl) (by kernel_rfl) (fun K hK => ?_)
              go_simp
              refine (rmappend J8 L8 _ y R8 (by omega) hgn).mono ?_
              rintro e w9 ⟨rfl, Y9, J9, L9, S9⟩
              refine hK _ _ ?_
              clear hK
              obtain ⟨⟨r, E9, g9⟩, hE9⟩ : ∃ T, D.logApp 2 g y = T := ⟨_, rfl⟩
              have hg9 : g9.n ≤ 16777216 + (i + 1) := by
                have h1 := logApp_n D 2 g y
                rw [hE9] at h1
                change g9.n ≤ g.n + 1 at h1
                omega
              rw [hE9] at J9 L9 ⊢
              change RSt w w9 p q X8 Y9 E9 E9 at J9
              change RLog w w9 p q a z X8 Y9 g9 g9 at L9
              clear J7 L7 R7 J8 L8 R8 S8 S9 hE9 O7
              have s0 : w9.cell? ⟨z, 2, none⟩ = some (.int .i64 (g9.n : Int)) ∧ w9.cell? ⟨z, 3, none⟩ = some (.bool g9.down) := ⟨L9.ml.c2, L9.ml.c3⟩
              refine wpAny_of_held (S := fun W => W.cell? ⟨z, 2, none⟩ = some (.int .i64 (g9.n : Int)) ∧ W.cell? ⟨z, 3, none⟩ = some (.bool g9.down)) _ _ _ _ ?_
              refine wpAnyH_do 6 91 (v := .bool false) rfl rfl (by kernel_rfl) (by kernel_rfl) (by kernel_rfl) (fun _ _ _ _ _ h => h) (by kernel_rfl) (fun W hS => (by obtain ⟨s1, s2⟩ := hS; first | (go_simp; done) | (go_simp; try with_reducible rfl) | simp [go_sem])) s0 ?_
              simp only [List.setIfInBounds_toArray, List.set_cons_succ, List.set_cons_zero]
              refine wpAnyH_do 7 92 rfl rfl (by kernel_rfl) (by kernel_rfl) (by kernel_rfl) (fun _ _ _ _ _ h => h) (by kernel_rfl) (fun W hS => (by obtain ⟨s1, s2⟩ := hS; go_simp; try with_reducible rfl)) s0 ?_
              simp only [List.setIfInBounds_toArray, List.set_cons_succ, List.set_cons_zero]
              refine wpAnyH_do 8 93 rfl rfl (by kernel_rfl) (by kernel_rfl) (by kernel_rfl) (fun _ _ _ _ _ h => h) (by kernel_rfl) (fun W hS => (by obtain ⟨s1, s2⟩ := hS; go_simp; try with_reducible rfl)) s0 ?_
              simp only [List.setIfInBounds_toArray, List.set_cons_succ, List.set_cons_zero]
              refine wpAnyH_do 10 95 rfl rfl (by kernel_rfl) (by kernel_rfl) (by kernel_rfl) (fun _ _ _ _ _ h => h) (by kernel_rfl) (fun W hS => (by obtain ⟨s1, s2⟩ := hS; go_simp; try with_reducible rfl)) s0 ?_
              simp only [List.setIfInBounds_toArray, List.set_cons_succ, List.set_cons_zero]
              refine wpAnyH_do 11 96 rfl rfl (by kernel_rfl) (by kernel_rfl) (by kernel_rfl) (fun _ _ _ _ _ h => h) (by kernel_rfl) (fun W hS => (by obtain ⟨s1, s2⟩ := hS; go_simp; try with_reducible rfl)) s0 ?_
              simp only [List.setIfInBounds_toArray, List.set_cons_succ, List.set_cons_zero]
              refine wpAnyH_do 12 97 rfl rfl (by kernel_rfl) (by kernel_rfl) (by kernel_rfl) (fun _ _ _ _ _ h => h) (by kernel_rfl) (fun W hS => (by obtain ⟨s1, s2⟩ := hS; go_simp; try with_reducible rfl)) s0 ?_
              simp only [List.setIfInBounds_toArray, List.set_cons_succ, List.set_cons_zero]
              refine wpAnyH_do 13 98 rfl rfl (by kernel_rfl) (by kernel_rfl) (by kernel_rfl) (fun _ _ _ _ _ h => h) (by kernel_rfl) (fun W hS => (by obtain ⟨s1, s2⟩ := hS; go_simp; try with_reducible rfl)) s0 ?_
              simp only [List.setIfInBounds_toArray, List.set_cons_succ, List.set_cons_zero]
              refine wpAnyH_one 9 rfl (by kernel_rfl) (by kernel_rfl) (fun K hK => ?_)
              go_simp
              refine (llen_any w9 L9.lg).mono ?_
              rintro e w10 ⟨rfl, n10, h10⟩
              have B10 : Below w9.heap.size w9 w10 := by rw [h10]; exact belD (Below.refl _ _) _
              have J10 := J9.later B10
              have L10 := L9.later B10
              have s0 : w10.cell? ⟨z, 2, none⟩ = some (.int .i64 (g9.n : Int)) ∧ w10.cell? ⟨z, 3, none⟩ = some (.bool g9.down) := ⟨L10.ml.c2, L10.ml.c3⟩
              refine hK _ _ s0 ?_
              clear hK h10 B10 J9 L9
              refine wpAnyH_do 14 99 (v := .bool false) rfl rfl (by kernel_rfl) (by kernel_rfl) (by kernel_rfl) (fun _ _ _ _ _ h => h) (by kernel_rfl) (fun W hS => (by obtain ⟨s1, s2⟩ := hS; first | (go_simp; done) | (go_simp; try with_reducible rfl) | simp [go_sem])) s0 ?_
              simp only [List.setIfInBounds_toArray, List.set_cons_succ, List.set_cons_zero]
              refine wpAnyH_do 15 100 (v := .bool false) rfl rfl (by kernel_rfl) (by kernel_rfl) (by kernel_rfl) (fun _ _ _ _ _ h => h) (by kernel_rfl) (fun W hS => (by obtain ⟨s1, s2⟩ := hS; first | (go_simp; done) | (go_simp; try with_reducible rfl) | simp [go_sem])) s0 ?_
              simp only [List.setIfInBounds_toArray, List.set_cons_succ, List.set_cons_zero]
              refine wpAnyH_do 16 101 rfl rfl (by kernel_rfl) (by kernel_rfl) (by kernel_rfl) (fun _ _ _ _ _ h => h) (by kernel_rfl) (fun W hS => (by obtain ⟨s1, s2⟩ := hS; go_simp; try with_reducible rfl)) s0 ?_
              simp only [List.setIfInBounds_toArray, List.set_cons_succ, List.set_cons_zero]
              refine wpAnyH_do 17 102 rfl rfl (by kernel_rfl) (by kernel_rfl) (by kernel_rfl) (fun _ _ _ _ _ h => h) (by kernel_rfl) (fun W hS => (by obtain ⟨s1, s2⟩ := hS; go_simp; try with_reducible rfl)) s0 ?_
              simp only [List.setIfInBounds_toArray, List.set_cons_succ, List.set_cons_zero]
              refine wpAnyH_do 19 104 rfl rfl (by kernel_rfl) (by kernel_rfl) (by kernel_rfl) (fun _ _ _ _ _ h => h) (by kernel_rfl) (fun W hS => (by obtain ⟨s1, s2⟩ := hS; go_simp; try with_reducible rfl)) s0 ?_
              simp only [List.setIfInBounds_toArray, List.set_cons_succ, List.set_cons_zero]
              refine wpAnyH_do 20 105 rfl rfl (by kernel_rfl) (by kernel_rfl) (by kernel_rfl) (fun _ _ _ _ _ h => h) (by kernel_rfl) (fun W hS => (by obtain ⟨s1, s2⟩ := hS; go_simp; try with_reducible rfl)) s0 ?_
              simp only [List.setIfInBounds_toArray, List.set_cons_succ, List.set_cons_zero]
              refine wpAnyH_do 21 106 rfl rfl (by kernel_rfl) (by kernel_rfl) (by kernel_rfl) (fun _ _ _ _ _ h => h) (by kernel_rfl) (fun W hS => (by obtain ⟨s1, s2⟩ := hS; go_simp; try with_reducible rfl)) s0 ?_
              simp only [List.setIfInBounds_toArray, List.set_cons_succ, List.set_cons_zero]
              refine wpAnyH_do 22 107 rfl rfl (by kernel_rfl) (by kernel_rfl) (by kernel_rfl) (fun _ _ _ _ _ h => h) (by kernel_rfl) (fun W hS => (by obtain ⟨s1, s2⟩ := hS; go_simp; try with_reducible rfl)) s0 ?_
              simp only [List.setIfInBounds_toArray, List.set_cons_succ, List.set_cons_zero]
              refine wpAnyH_one 18 rfl (by kernel_rfl) (by kernel_rfl) (fun K hK => ?_)
              go_simp
              refine (lup_any w10 L10.lg).mono ?_
              rintro e w11 ⟨rfl, n11, h11⟩
              have B11 : Below w10.heap.size w10 w11 := by rw [h11]; exact belD (Below.refl _ _) _
              have J11 := J10.later B11
              have L11 := L10.later B11
              have s0 : w11.cell? ⟨z, 2, none⟩ = some (.int .i64 (g9.n : Int)) ∧ w11.cell? ⟨z, 3, none⟩ = some (.bool g9.down) := ⟨L11.ml.c2, L11.ml.c3⟩
              refine hK _ _ s0 ?_
              clear hK h11 B11 J10 L10
              refine wpAnyH_do 23 108 (v := .bool false) rfl rfl (by kernel_rfl) (by kernel_rfl) (by kernel_rfl) (fun _ _ _ _ _ h => h) (by kernel_rfl) (fun W hS => (by obtain ⟨s1, s2⟩ := hS; first | (go_simp; done) | (go_simp; try with_reducible rfl) | simp [go_sem])) s0 ?_
              simp only [List.setIfInBounds_toArray, List.set_cons_succ, List.set_cons_zero]
              refine wpAnyH_do 24 109 (v := .bool false) rfl rfl (by kernel_rfl) (by kernel_rfl) (by kernel_rfl) (fun _ _ _ _ _ h => h) (by kernel_rfl) (fun W hS => (by obtain ⟨s1, s2⟩ := hS; first | (go_simp; done) | (go_simp; try with_reducible rfl) | simp [go_sem])) s0 ?_
              simp only [List.setIfInBounds_toArray, List.set_cons_succ, List.set_cons_zero]
              refine wpAnyH_done (by kernel_rfl) ?_ _
              refine NoPanic.normal ?_
              have LS2 : RLg w w11 p q X8 Y9 (.pointer (some ⟨a, 0, none⟩)) (.pointer (some ⟨z, 0, none⟩)) (i + 1) := .inr ⟨a, z, g9, rfl, rfl, L11, by omega⟩
              clear L11 s0
              go_wp2_with fail
              go_meet
              exact ⟨E9, X8, Y9, _, rfl, rfl, J11, LS2⟩
        case rest =>
          clear J L hn4 hK
          obtain ⟨D, X, Y, c, rfl, rfl, J, L⟩ := hcut
          go_wp2_with fail
          have Lt := L
          cases hoff : D.off
          · have hrd := read_at (D := D) (f := 2) (by decide) hoff
            have htr := dread wc 2 J.js.d
            rw [hrd] at htr
            obtain ⟨bt, hbt⟩ : ∃ b, (D.fs 2).1 = b := ⟨_, rfl⟩
            obtain ⟨gB, gF, vst, plt, hM⟩ := J.m
            obtain ⟨am, cm, _, hcm, hrow, _⟩ := hM.1.at (i := 2) (by decide)
            rw [show ((2 : Nat) : Int) = 2 from rfl] at hcm hrow
            have cT := hM.1.c1
            have cO := hM.1.c3
            rw [hoff] at cO
            rw [hbt] at htr hcm hrow
            have HTR := Bx.mk htr
            have RT := Bx.mk (Rv.of_own hrow)
            clear hrd htr hbt hoff hM hrow
            go_wp2_with fail
            refine HTR.out.mono ?_
            rintro e wt ⟨vt, rfl, Ot, Bt⟩
            replace Ot := Rv.of_own Ot
            change Rv wt vt bt.length (bt.map vB) at Ot
            obtain ⟨ct, cct, rfl⟩ := rv_slice Ot
            have Jt := J.later Bt
            have Lt := Lt.later Bt
            have hcm := (Bt.cell (p := ⟨gB, 2, none⟩) (World.block_lt_of_cell? _ _ hcm)).trans hcm
            have cT := (Bt.cell (p := ⟨q, 1, none⟩) (World.block_lt_of_cell? _ _ cT)).trans cT
            have cO := (Bt.cell (p := ⟨q, 3, none⟩) (World.block_lt_of_cell? _ _ cO)).trans cO
            have HS := Bx.mk (sameBytes_refl (.slice ct bt.length cct) (.slice am bt.length cm) bt wt Ot (RT.out.below Bt))
            clear Ot RT Bt HTR J
            go_wp2_with fail
            refine HS.out.mono ?_
            rintro e wu ⟨rfl, nt, ht⟩
            have Bt : Below wt.heap.size wt wu := by rw [ht]; exact belD (Below.refl _ _) _
            have cO := (Bt.cell (p := ⟨q, 3, none⟩) (World.block_lt_of_cell? _ _ cO)).trans cO
            have Jt := Jt.later Bt
            have Lt := Lt.later Bt
            clear ht Bt HS hcm cT
            go_wp2_with fail
            go_roundw
            case rel => exact ⟨i + 1, D, X, Y, _, by go_num, by have := HI1.out; omega, by have := HI2.out; omega, rfl, rfl, Jt, Lt⟩
            case measure => have := HI1.out; simp [intOf]; omega
          · have hrd : D.read 2 = ([], 19) := by unfold Dk.read; rw [if_neg (by decide), hoff]; rfl
            have htr := dread wc 2 J.js.d
            rw [hrd] at htr
            obtain ⟨gB, gF, vst, plt, hM⟩ := J.m
            have cO := hM.1.c3
            rw [hoff] at cO
            have HTR := Bx.mk htr
            clear hrd htr hoff hM
            go_wp2_with fail
            refine HTR.out.mono ?_
            rintro e wt ⟨vt, rfl, Ot, Bt⟩
            have Jt := J.later Bt
            have Lt := Lt.later Bt
            have cO := (Bt.cell (p := ⟨q, 3, none⟩) (World.block_lt_of_cell? _ _ cO)).trans cO
            obtain ⟨ct, cct, rfl⟩ := own_isSlice Ot
            clear Ot Bt HTR J
            go_wp2_with fail
            go_roundw
            case rel => exact ⟨i + 1, D, X, Y, _, by go_num, by have := HI1.out; omega, by have := HI2.out; omega, rfl, rfl, Jt, Lt⟩
            case measure => have := HI1.out; simp [intOf]; omega
    · have hlt2 : ¬ ((i : Int) < (ops.length : Int)) ∨ ((i : Int) < (ops.length : Int) ∧ ¬ ((i : Int) < 14)) := by omega
      have BJ := J.js.be
      clear hlt hi hio
      rcases hlt2 with h | ⟨h, h'⟩
      all_goals
        go_wp2_with fail
        refine (lives31_any W).mono ?_
        rintro e w15 ⟨rfl, B15⟩
        go_wp2_with fail
        go_ret
        exact ⟨rfl, bel BJ B15⟩
end Go.Proofs.YtpehnggglolnoaaGreat
