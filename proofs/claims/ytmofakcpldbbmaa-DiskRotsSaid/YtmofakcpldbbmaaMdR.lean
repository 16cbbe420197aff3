/- The law DiskRots. -/
import Derived.Test.YtmofakcpldbbmaaMdQ
namespace Go.Proofs.Ytmofakcpldbbmaa
open Go.RowKit

theorem drot' (w : World) {p : Nat} {X : Nat → Prop} {D : Dk} (k bit : Int) (hb : bit ≤ 9223372036854775807) (h : DAt w p X D) (r : Int × Dk) (hr : D.rot k bit = r) : Calls Try.prog 34 #[.pointer (some ⟨p, 0, none⟩), .int .i64 k, .int .i64 bit] w fun e w' => e = .returned (.int .i64 r.1) ∧ DAt w' p X r.2 ∧ DStep X X w w' := by
  subst hr
  exact drot w k bit hb h
theorem mrot' (w : World) {q : Nat} {Y : Nat → Prop} {D : Dk} (k bit : Int) (hb : bit ≤ 9223372036854775807) (h : MAt w q Y D) (r : Int × Dk) (hr : D.rot k bit = r) : Calls Try.prog 35 #[.pointer (some ⟨q, 0, none⟩), .int .i64 k, .int .i64 bit] w fun e w' => e = .returned (.int .i64 r.1) ∧ ∃ Y', MAt w' q Y' r.2 ∧ DStep Y Y' w w' := by
  subst hr
  exact mrot_any k bit hb w h
theorem rv_piece {W : World} {g n c : Nat} {us : List Value} (h : Rv W (.slice (some ⟨g, 0, none⟩) n c) n us) (o t : Nat) (h1 : o ≤ t) (h2 : t ≤ n) (h3 : ¬ c = o) : Rv W (.slice (some ⟨g, o, none⟩) (t - o) (c - o)) (t - o) ((us.drop o).take (t - o)) := by
  obtain ⟨ao, cap, e, _, hr⟩ := h.sliced 1 o t h1 h2
  injection e with e1 e2 e3
  subst e1 e3
  rw [if_neg h3] at hr
  have e : (some (⟨g, 0, none⟩ : Addr)).map (·.add (o * 1)) = some ⟨g, o, none⟩ := by
    simp only [Option.map_some, Nat.mul_one, Addr.add]
    by_cases h0 : o = 0
    · subst h0; simp
    · simp [h0]
  rw [e, Nat.mul_one, Nat.mul_one] at hr
  exact hr
set_option linter.unusedSimpArgs false in
set_option maxRecDepth 20000 in
set_option maxHeartbeats 4000000 in
theorem law_DiskRots (room file bit : Int) (v : Value) (l : List Int) (w : World) (hr : -9223372036854775808 ≤ room ∧ room ≤ 9223372036854775807) (hv : Rv w v l.length (l.map (Value.int .i64))) (hx : ∀ x ∈ l, -9223372036854775808 ≤ x ∧ x ≤ 9223372036854775807)
    (hf : -9223372036854775808 ≤ file ∧ file ≤ 9223372036854775807) (hb : -9223372036854775808 ≤ bit ∧ bit ≤ 9223372036854775807) :
    Calls Try.prog 10 #[.int .i64 room, v, .int .i64 file, .int .i64 bit] w fun e w' => e = .returned (.bool true) ∧ Below w.heap.size w w' := by
  obtain ⟨av, cv, rfl, _, _⟩ := hv.opened
  have HF := Bx.mk hf
  have HB := Bx.mk hb
  clear hf hb
  go_enter Try.func10, Try.ntmps10
  go_wp2_with fail
  refine (made_any room _ l w hr hv hx).mono ?_
  rintro e w1 ⟨p, q, X, Y, D, rfl, D1, M1, sep, lX, lY, B1⟩
  clear hr hx hv
  go_wp2_with fail
  refine (around_nat file 4 (by omega) HF.out.1 HF.out.2 (by omega) _).mono ?_
  rintro e w2 ⟨f, hf, _, rfl, rfl⟩
  have hf64 : f < 64 := by omega
  have hfi : (f : Int) < 64 := by omega
  have hok := D1.ok
  obtain ⟨x, hx⟩ : ∃ x, (D.fs (f : Int)).1 = x := ⟨_, rfl⟩
  have hxl : x.length ≤ 16777216 := by
    have h1 := D.le_used (f : Int) (by omega) hfi
    have h2 := hok.used
    have h3 := hok.room
    rw [hx] at h1
    omega
  have HX := Bx.mk hx
  have M1' := M1
  obtain ⟨gB, gF, vs, pl, hm, _, _⟩ := M1'
  obtain ⟨am, cm, _, hci, _, _⟩ := hm.at hf64
  have c1 := hm.c1
  rw [hx] at hci
  obtain ⟨n, hn⟩ : ∃ n, x.length = n := ⟨_, rfl⟩
  rw [hn] at hci hxl
  have HN := Bx.mk hn
  have HOK := Bx.mk hok
  clear hx hn hm hok
  go_wp2_with fail
  refine (around_any bit (8 * (n : Int) + 2) (by omega) HB.out.1 HB.out.2 (by omega) w1).mono ?_
  rintro e w2 ⟨rfl, rfl⟩
  have ha1 := around_lo bit (8 * (n : Int) + 2) (by omega)
  have ha2 := around_hi bit (8 * (n : Int) + 2) (by omega)
  obtain ⟨b2, hb2⟩ : ∃ b, around bit (8 * (n : Int) + 2) = b := ⟨_, rfl⟩
  rw [hb2] at ha1 ha2 ⊢
  clear hb2
  have BA := (Below.refl w1.heap.size w1).alloc (Nat.le_refl _) (.cells #[.int .i64 bit, .int .i64 b2] 3)
  have hblk := World.alloc_heap_new w1 (.cells #[.int .i64 bit, .int .i64 b2] 3)
  have D2 := D1.later BA
  have M2 := M1.later BA
  have B2 := bel B1 BA
  have hs1 := B1.size
  go_upto_region 6 with fail
  have hgX : ∀ b, X b → b ≠ w1.heap.size := fun b hb e => by have := D1.xl b hb; omega
  generalize w1.alloc (.cells #[.int .i64 bit, .int .i64 b2] 3) = w2 at BA hblk D2 M2 B2 ⊢
  obtain ⟨G, hG⟩ : ∃ G, w1.heap.size = G := ⟨_, rfl⟩
  rw [hG] at hblk hgX ⊢
  have hGw : G < w2.heap.size := (Array.getElem?_eq_some_iff.1 hblk).1
  have HGX := Bx.mk hgX
  clear D1 M1 B1 BA hci c1 hs1 hgX
  go_wp2_with fail
  go_loopw [13] (fun u W => ∃ i : Nat, u = .int .i64 (i : Int) ∧ i ≤ 2 ∧ DAt W p X D ∧ MAt W q Y D ∧ W.heap[G]? = some (.cells #[.int .i64 bit, .int .i64 b2] 3 (0, 0)) ∧ Below w.heap.size w W) (fun u _ => 2 - (intOf u).toNat)
  case atStart => exact ⟨0, rfl, Nat.zero_le _, D2, M2, hblk, B2⟩
  case round =>
    clear D2 M2 hblk B2 hGw
    rename World => W
    obtain ⟨i, rfl, hi, D2, M2, hblk, B2⟩ := hrel
    by_cases hlt : i < 2
    · have hlti : (i : Int) < 2 := by omega
      obtain ⟨bt, hbt, hbt64⟩ : ∃ bt, (∀ W' : World, W'.heap[G]? = W.heap[G]? → W'.cell? ⟨G, i, none⟩ = some (.int .i64 bt)) ∧ bt ≤ 9223372036854775807 := by
        have : i = 0 ∨ i = 1 := by omega
        rcases this with rfl | rfl
        · exact ⟨bit, fun W' hW => by rw [World.cell?, hW, hblk]; rfl, HB.out.2⟩
        · exact ⟨b2, fun W' hW => by rw [World.cell?, hW, hblk]; rfl, by omega⟩
      have HBT := Bx.mk hbt
      have hGw : G < W.heap.size := (Array.getElem?_eq_some_iff.1 hblk).1
      obtain ⟨R, hR⟩ : ∃ R, D.rot (f : Int) bt = R := ⟨_, rfl⟩
      have hback := rot_back HOK.out (f : Int) bt
      have hoff := rot_off D (f : Int) bt
      rw [hR] at hback hoff
      have HRB := Bx.mk hback
      have HRO := Bx.mk hoff
      have HR := Bx.mk hR
      clear hback hoff hR hbt
      go_wp2_with fail
      refine (mcopy_any W M2).mono ?_
      rintro e w3 ⟨t, Z, rfl, N3, hZ, B3⟩
      have D3 := D2.later B3
      have M3 := M2.later B3
      have B3' := bel B2 B3
      have k3 := B3.block G hGw
      have hs2 := B2.size
      have lZ : ∀ b, Z b → w.heap.size ≤ b := fun b hb => by have := hZ b hb; omega
      have sXZ : Sep X Z := fun b hx hz => by have h1 := D2.xl b hx; have h2 := hZ b hz; omega
      have sYZ : Sep Y Z := fun b hx hz => by have h1 := M2.yl b hx; have h2 := hZ b hz; omega
      have hgZ : ∀ b, Z b → b ≠ G := fun b hb e => by have := hZ b hb; omega
      have c3 := HBT.out w3 k3
      have hs3 := B3'.size
      have hGw3 : G < w3.heap.size := by have := B3.size; omega
      clear D2 M2 B2 B3 hZ
      go_wp2_with fail
      refine (drot' w3 (f : Int) bt hbt64 D3 R HR.out).mono ?_
      rintro e w4 ⟨rfl, D4, S4⟩
      have N4 := N3.other S4 sXZ
      have M4 := M3.other S4 sep
      have B4 := B3'.trans (S4.toBelow hs3 lX)
      have k4 := (S4.block G hGw3 (fun h => HGX.out G h rfl)).trans k3
      have c4 := HBT.out w4 k4
      have hGw4 : G < w4.heap.size := by have := S4.size; omega
      clear D3 N3 M3 S4 c3 B3' k3 hs3 hGw3
      go_wp2_with fail
      refine (mrot' w4 (f : Int) bt hbt64 N4 R HR.out).mono ?_
      rintro e w5 ⟨rfl, Z5, N5, S5⟩
      have D5 := D4.other S5 sXZ.symm
      have M5 := M4.other S5 sYZ.symm
      have B5 := B4.trans (S5.toBelow B4.size lZ)
      have k5 := (S5.block G hGw4 (fun h => hgZ G h rfl)).trans k4
      have hGw5 : G < w5.heap.size := by have := S5.size; omega
      clear D4 N4 M4 S5 c4 B4 k4 hGw4 sXZ sYZ hgZ lZ
      go_wp2_with fail
      refine (same_any w5 D5 N5).mono ?_
      rintro e w6 ⟨rfl, B6⟩
      have D6 := D5.later B6
      have M6 := M5.later B6
      have B6' := bel B5 B6
      have k6 := (B6.block G hGw5).trans k5
      have c6 := HBT.out w6 k6
      have hGw6 : G < w6.heap.size := by have := B6.size; omega
      clear D5 M5 N5 B5 B6 k5 hGw5
      have M6' := M6
      obtain ⟨gB, gF, vs, pl, hm, _, _⟩ := M6'
      have m3 := hm.c3
      go_upto_region 13 with fail
      go_cut [84] from 76 to 84 (fun u wx => u = .bool (decide (R.1 = 0 ∧ D.off = false)) ∧ w6 = wx)
      case first =>
        by_cases h1 : R.1 = 0
        · cases ho : D.off
          · rw [ho] at m3
            have h1b : ((R.1 : Int) == 0) = true := by rw [h1]; rfl
            have HRES : Bx (Value.bool true = .bool (decide (R.1 = 0 ∧ D.off = false))) := ⟨by rw [decide_eq_true (And.intro h1 ho)]⟩
            clear h1
            go_wp2_with fail
            go_meet
            exact ⟨HRES.out, rfl⟩
          · rw [ho] at m3
            have h1b : ((R.1 : Int) == 0) = true := by rw [h1]; rfl
            have HRES : Bx (Value.bool false = .bool (decide (R.1 = 0 ∧ D.off = false))) := ⟨by rw [decide_eq_false (fun h : R.1 = 0 ∧ D.off = false => by rw [ho] at h; cases h.2)]⟩
            clear h1
            go_wp2_with fail
            go_meet
            exact ⟨HRES.out, rfl⟩
        · have h1b : ((R.1 : Int) == 0) = false := beq_eq_false_iff_ne.2 h1
          have HRES : Bx (Value.bool false = .bool (decide (R.1 = 0 ∧ D.off = false))) := ⟨by rw [decide_eq_false (fun h : R.1 = 0 ∧ D.off = false => h1 h.1)]⟩
          clear h1
          go_wp2_with fail
          go_meet
          exact ⟨HRES.out, rfl⟩
      case rest =>
      obtain ⟨rfl, rfl⟩ := hcut
      go_upto_if 84 with fail
      obtain ⟨bq, hbq⟩ : ∃ b, decide (R.1 = 0 ∧ D.off = false) = b := ⟨_, rfl⟩
      rw [hbq]
      go_cut [] from 85 to 132 (fun wx => Below w6.heap.size w6 wx)
      case first =>
        cases bq with
        | false =>
          clear hbq
          go_wp2_with fail
          go_meet
          exact Below.refl _ _
        | true =>
          obtain ⟨h1, ho⟩ := of_decide_eq_true hbq
          have hcond : ¬ (¬ (0 ≤ (f : Int) ∧ (f : Int) < 64) ∨ bt < 0 ∨ 8 * ((D.fs (f : Int)).1.length : Int) ≤ bt) := fun h => by
            have := HR.out
            unfold Dk.rot at this
            rw [if_pos h] at this
            rw [← this] at h1
            cases h1
          have hR2 := HR.out
          unfold Dk.rot at hR2
          rw [if_neg hcond] at hR2
          rw [HX.out, HN.out] at hcond
          obtain ⟨bn, rfl⟩ : ∃ bn : Nat, bt = (bn : Int) := ⟨bt.toNat, by omega⟩
          rw [HX.out, Int.toNat_natCast] at hR2
          have hrd : R.2.read (f : Int) = (flipB x bn, 0) := by
            rw [← hR2, read_on (D.put (f : Int) (flipB x bn) (D.fs (f : Int)).2) (f : Int) ⟨by omega, hfi⟩ ho, put_fs0]
          obtain ⟨o, hoo⟩ : ∃ o, bn / 8 = o := ⟨_, rfl⟩
          have hq1 : ((bn : Int)).tdiv 8 = (o : Int) := by rw [Int.tdiv_eq_ediv_of_nonneg (by omega)]; omega
          have hq2 : ((bn : Int)) / 8 = (o : Int) := by omega
          have hon : o < n := by omega
          obtain ⟨tt, htt⟩ : ∃ tt, min n (o + 8) = tt := ⟨_, rfl⟩
          have htn : tt ≤ n := by omega
          have hot : o < tt := by omega
          have ht8 : tt ≤ o + 8 := by omega
          have hmin : min (n : Int) ((o : Int) + 8) = (tt : Int) := by omega
          have hhf := hash_flip (L := [114, 111, 116]) (b := x) hoo (by rw [HN.out]; exact hon) ht8 hot
          have hfl := flipB_len x bn
          rw [HN.out] at hfl
          obtain ⟨fb, hfb⟩ : ∃ fb, flipB x bn = fb := ⟨_, rfl⟩
          rw [hfb] at hrd hhf hfl
          obtain ⟨m, hmm⟩ : ∃ m, n = m + 1 := ⟨n - 1, by omega⟩
          have HRD := Bx.mk hrd
          have HHF := Bx.mk hhf
          have HFL := Bx.mk hfl
          have HMIN := Bx.mk hmin
          have HMM := Bx.mk hmm
          have HOO := Bx.mk ho
          clear hR2 hoo htt hhf hfl hfb hmin hmm h1 ho hbq hrd hcond
          have hrdc := dread w6 (f : Int) D6
          rw [HRD.out] at hrdc
          have HRDC := Bx.mk hrdc
          clear hrdc
          go_wp2_with fail
          refine HRDC.out.mono ?_
          rintro e w7 ⟨v7, rfl, O7, B7⟩
          replace O7 : w7.ownsRow w6.heap.size 5 1 v7 fb.length (fb.map vB) := O7
          rw [HFL.out, HMM.out] at O7
          obtain ⟨g7, c7, rfl, _, hc7, _, _⟩ := own_open O7
          rw [← HMM.out] at O7 hc7 ⊢
          have hm7 := hm.later B7
          obtain ⟨ar, cr, _, hci, hrow, _⟩ := hm7.at hf64
          rw [HX.out, HN.out] at hci hrow
          rw [HMM.out] at hrow
          obtain ⟨g8, cap8, e8, _, hc8, _, _⟩ := own_open hrow
          rw [← HMM.out] at hrow hc8 e8
          injection e8 with e1 e2 e3
          clear e2
          subst e1 e3
          have c1 := hm7.c1
          have k7 := B7.block G hGw6
          have c77 := HBT.out w7 (k7.trans k6)
          have hoc7 : ¬ c7 = o := by omega
          have hoc8 : ¬ cr = o := by omega
          have R7 := rv_piece (Rv.of_own O7) o tt (by omega) htn hoc7
          have R8 := rv_piece (Rv.of_own hrow) o tt (by omega) htn hoc8
          rw [← List.map_drop, ← List.map_take] at R7 R8
          have htc7 : (tt : Int) ≤ (c7 : Int) := by omega
          have htc8 : (tt : Int) ≤ (cr : Int) := by omega
          have hot' : (o : Int) ≤ (tt : Int) := by omega
          have hmd := HMIN.out
          have HR7 := Bx.mk R7
          have HR8 := Bx.mk R8
          clear hm hm7 R7 R8 k7 D6 M6
          obtain ⟨x1, hx1⟩ : ∃ y, bytesB [114, 111, 116] ((fb.drop o).take (tt - o)) = y := ⟨_, rfl⟩
          obtain ⟨x2, hx2⟩ : ∃ y, bytesB [114, 111, 116] ((x.drop o).take (tt - o)) = y := ⟨_, rfl⟩
          have hne := HHF.out
          rw [hx1, hx2] at hne
          have hneb := toNat_ne hne
          have HC1 := Bx.mk (fun W h => hash_rot (.slice (some ⟨g7, o, none⟩) (tt - o) (c7 - o)) ((fb.drop o).take (tt - o)) (tt - o) W h (by rw [List.length_take, List.length_drop, HFL.out]; omega) (by omega) x1 hx1)
          have HC2 := Bx.mk (fun W h => hash_rot (.slice (some ⟨g8, o, none⟩) (tt - o) (cr - o)) ((x.drop o).take (tt - o)) (tt - o) W h (by rw [List.length_take, List.length_drop, HN.out]; omega) (by omega) x2 hx2)
          clear hne hx1 hx2
          go_upto_region 19 with fail
          have s0 : w7.drew.cell? ⟨q, 1, none⟩ = some (.slice (some ⟨gB, 0, none⟩) 64 64) ∧ w7.drew.cell? ⟨gB, f, none⟩ = some (.slice (some ⟨g8, 0, none⟩) n cr) := ⟨c1, hci⟩
          refine wp_region_held_drew (S := fun W' => W'.cell? ⟨q, 1, none⟩ = some (.slice (some ⟨gB, 0, none⟩) 64 64) ∧ W'.cell? ⟨gB, f, none⟩ = some (.slice (some ⟨g8, 0, none⟩) n cr)) (by kernel_rfl) s0 (fun _ => ?_)
          refine wpAnyH_do 0 116 rfl rfl (by kernel_rfl) (by kernel_rfl) (by kernel_rfl) (fun _ _ _ _ _ h => h) (by kernel_rfl) (fun W hS => by (obtain ⟨s1, s2⟩ := hS); go_simp; try with_reducible rfl) s0 ?_
          simp only [List.setIfInBounds_toArray, List.set_cons_succ, List.set_cons_zero]
          refine wpAnyH_do 1 117 rfl rfl (by kernel_rfl) (by kernel_rfl) (by kernel_rfl) (fun _ _ _ _ _ h => h) (by kernel_rfl) (fun W hS => by (obtain ⟨s1, s2⟩ := hS); go_simp; try with_reducible rfl) s0 ?_
          simp only [List.setIfInBounds_toArray, List.set_cons_succ, List.set_cons_zero]
          refine wpAnyH_do 2 118 rfl rfl (by kernel_rfl) (by kernel_rfl) (by kernel_rfl) (fun _ _ _ _ _ h => h) (by kernel_rfl) (fun W hS => by (obtain ⟨s1, s2⟩ := hS); go_simp; try with_reducible rfl) s0 ?_
          simp only [List.setIfInBounds_toArray, List.set_cons_succ, List.set_cons_zero]
          refine wpAnyH_do 3 119 rfl rfl (by kernel_rfl) (by kernel_rfl) (by kernel_rfl) (fun _ _ _ _ _ h => h) (by kernel_rfl) (fun W hS => by (obtain ⟨s1, s2⟩ := hS); go_simp; try with_reducible rfl) s0 ?_
          simp only [List.setIfInBounds_toArray, List.set_cons_succ, List.set_cons_zero]
          refine wpAnyH_do 5 121 rfl rfl (by kernel_rfl) (by kernel_rfl) (by kernel_rfl) (fun _ _ _ _ _ h => h) (by kernel_rfl) (fun W hS => by (obtain ⟨s1, s2⟩ := hS); go_simp; try with_reducible rfl) s0 ?_
          simp only [List.setIfInBounds_toArray, List.set_cons_succ, List.set_cons_zero]
          refine wpAnyH_do 6 122 rfl rfl (by kernel_rfl) (by kernel_rfl) (by kernel_rfl) (fun _ _ _ _ _ h => h) (by kernel_rfl) (fun W hS => by (obtain ⟨s1, s2⟩ := hS); go_simp; try with_reducible rfl) s0 ?_
          simp only [List.setIfInBounds_toArray, List.set_cons_succ, List.set_cons_zero]
          refine wpAnyH_do 7 123 rfl rfl (by kernel_rfl) (by kernel_rfl) (by kernel_rfl) (fun _ _ _ _ _ h => h) (by kernel_rfl) (fun W hS => by (obtain ⟨s1, s2⟩ := hS); go_simp; try with_reducible rfl) s0 ?_
          simp only [List.setIfInBounds_toArray, List.set_cons_succ, List.set_cons_zero]
          refine wpAnyH_do 8 124 rfl rfl (by kernel_rfl) (by kernel_rfl) (by kernel_rfl) (fun _ _ _ _ _ h => h) (by kernel_rfl) (fun W hS => by (obtain ⟨s1, s2⟩ := hS); go_simp; try with_reducible rfl) s0 ?_
          simp only [List.setIfInBounds_toArray, List.set_cons_succ, List.set_cons_zero]
          refine wpAnyH_do 9 125 rfl rfl (by kernel_rfl) (by kernel_rfl) (by kernel_rfl) (fun _ _ _ _ _ h => h) (by kernel_rfl) (fun W hS => by (obtain ⟨s1, s2⟩ := hS); go_simp; try with_reducible rfl) s0 ?_
          simp only [List.setIfInBounds_toArray, List.set_cons_succ, List.set_cons_zero]
          refine wpAnyH_do 10 126 rfl rfl (by kernel_rfl) (by kernel_rfl) (by kernel_rfl) (fun _ _ _ _ _ h => h) (by kernel_rfl) (fun W hS => by (obtain ⟨s1, s2⟩ := hS); go_simp; try with_reducible rfl) s0 ?_
          simp only [List.setIfInBounds_toArray, List.set_cons_succ, List.set_cons_zero]
          refine wpAnyH_do 11 127 rfl rfl (by kernel_rfl) (by kernel_rfl) (by kernel_rfl) (fun _ _ _ _ _ h => h) (by kernel_rfl) (fun W hS => by (obtain ⟨s1, s2⟩ := hS); go_simp; try with_reducible rfl) s0 ?_
          simp only [List.setIfInBounds_toArray, List.set_cons_succ, List.set_cons_zero]
          refine wpAnyH_do 12 128 rfl rfl (by kernel_rfl) (by kernel_rfl) (by kernel_rfl) (fun _ _ _ _ _ h => h) (by kernel_rfl) (fun W hS => by (obtain ⟨s1, s2⟩ := hS); go_simp; try with_reducible rfl) s0 ?_
          simp only [List.setIfInBounds_toArray, List.set_cons_succ, List.set_cons_zero]
          refine wpAnyH_do 13 129 rfl rfl (by kernel_rfl) (by kernel_rfl) (by kernel_rfl) (fun _ _ _ _ _ h => h) (by kernel_rfl) (fun W hS => by (obtain ⟨s1, s2⟩ := hS); go_simp; try with_reducible rfl) s0 ?_
          simp only [List.setIfInBounds_toArray, List.set_cons_succ, List.set_cons_zero]
          refine wpAnyH_do 14 130 rfl rfl (by kernel_rfl) (by kernel_rfl) (by kernel_rfl) (fun _ _ _ _ _ h => h) (by kernel_rfl) (fun W hS => by (obtain ⟨s1, s2⟩ := hS); go_simp; try with_reducible rfl) s0 ?_
          simp only [List.setIfInBounds_toArray, List.set_cons_succ, List.set_cons_zero]
          refine wpAnyH_one 4 rfl (by kernel_rfl) (by kernel_rfl) (fun K hK => ?_)
          go_simp
          refine (HC1.out _ (HR7.out.below (Below.refl _ _).drew)).mono ?_
          rintro e w8 ⟨rfl, B8⟩
          have s8 : w8.cell? ⟨q, 1, none⟩ = some (.slice (some ⟨gB, 0, none⟩) 64 64) ∧ w8.cell? ⟨gB, f, none⟩ = some (.slice (some ⟨g8, 0, none⟩) n cr) := ⟨(B8.cell (World.block_lt_of_cell? w7 _ c1)).trans c1, (B8.cell (World.block_lt_of_cell? w7 _ hci)).trans hci⟩
          refine hK _ _ s8 ?_
          clear hK
          try simp only [Act.put, List.setIfInBounds_toArray, List.set_cons_zero, List.set_cons_succ]
          refine wpAnyH_one 15 rfl (by kernel_rfl) (by kernel_rfl) (fun K hK => ?_)
          go_simp
          refine (HC2.out _ ((HR8.out.below (Below.refl _ _).drew).below B8)).mono ?_
          rintro e w9 ⟨rfl, B9⟩
          have s9 : w9.cell? ⟨q, 1, none⟩ = some (.slice (some ⟨gB, 0, none⟩) 64 64) ∧ w9.cell? ⟨gB, f, none⟩ = some (.slice (some ⟨g8, 0, none⟩) n cr) := ⟨(B9.cell (World.block_lt_of_cell? w8 _ s8.1)).trans s8.1, (B9.cell (World.block_lt_of_cell? w8 _ s8.2)).trans s8.2⟩
          refine hK _ _ s9 ?_
          clear hK
          try simp only [Act.put, List.setIfInBounds_toArray, List.set_cons_zero, List.set_cons_succ]
          refine wpAnyH_do 16 132 rfl rfl (by kernel_rfl) (by kernel_rfl) (by kernel_rfl) (fun _ _ _ _ _ h => h) (by kernel_rfl) (fun W hS => by (obtain ⟨s1, s2⟩ := hS); go_simp; try with_reducible rfl) s9 ?_
          simp only [List.setIfInBounds_toArray, List.set_cons_succ, List.set_cons_zero]
          refine wpAnyH_done (by kernel_rfl) ?_ _
          have BF := Bx.mk (bel (bel (bel B7 (Below.refl _ _).drew) B8) B9)
          clear HC1 HC2 s0 s8 s9 c1 hci HR7 HR8 B8 B9 O7 hrow B7
          go_wp2_with fail
          go_meet
          exact BF.out
      case rest =>
      rename World => w9
      clear hbq hm m3
      have D9 := D6.later hcut
      have M9 := M6.later hcut
      have B9 := bel B6' hcut
      have k9 := (hcut.block G hGw6).trans k6
      have c9 := HBT.out w9 k9
      clear D6 M6 B6' k6 hcut c6
      go_wp2_with fail
      refine (drot' w9 (f : Int) bt hbt64 D9 (R.1, D) HRB.out).mono ?_
      rintro e w10 ⟨rfl, D10, S10⟩
      have M10 := M9.other S10 sep
      have B10 := B9.trans (S10.toBelow B9.size lX)
      have hGw9 : G < w9.heap.size := (Array.getElem?_eq_some_iff.1 (k9.trans hblk)).1
      have k10 := (S10.block G hGw9 (fun h => HGX.out G h rfl)).trans k9
      have hGw10 : G < w10.heap.size := by have := S10.size; omega
      clear D9 M9 B9 k9 c9 S10 hGw9
      go_wp2_with fail
      refine (same_any w10 D10 M10).mono ?_
      rintro e w11 ⟨rfl, B11⟩
      have D11 := D10.later B11
      have M11 := M10.later B11
      have B11' := bel B10 B11
      have k11 := ((B11.block G hGw10).trans k10).trans hblk
      clear D10 M10 B10 B11 k10 hblk
      go_wp2_with fail
      go_roundw
      case rel => exact ⟨i + 1, by simp, hlt, D11, M11, k11, B11'⟩
      case measure => simp [intOf]; omega
    · clear hblk M2
      have hr64 : D.rot 64 0 = (1, D) := by unfold Dk.rot; rw [if_pos (.inl (by omega))]
      have HR64 := Bx.mk hr64
      clear hr64
      go_wp2_with fail
      refine (drot' W 64 0 (by omega) D2 (1, D) HR64.out).mono ?_
      rintro e w10 ⟨rfl, D10, S10⟩
      have B10 := B2.trans (S10.toBelow B2.size lX)
      clear D2 B2 S10
      go_wp2_with fail
      refine (lives30_any _).mono ?_
      rintro e w11 ⟨rfl, B11⟩
      have B11' := bel B10 B11
      go_wp2_with fail
      go_ret
      exact ⟨rfl, B11'⟩
end Go.Proofs.Ytmofakcpldbbmaa
