/- The law PoolMany. -/
import Derived.Test.YtfdacckkdjpjhaaPlR
import Derived.Test.YtfdacckkdjpjhaaPmA
import Derived.Deep.CutBlock
namespace Go.Proofs.Ytfdacckkdjpjhaa
open Go.RowKit

set_option maxRecDepth 20000 in
set_option maxHeartbeats 2000000 in
theorem law_PoolMany (more turn : Int) (w : World) (hm : -9223372036854775808 ≤ more ∧ more ≤ 9223372036854775807) (ht : -9223372036854775808 ≤ turn ∧ turn ≤ 9223372036854775807) :
    Calls Try.prog 4 #[.int .i64 more, .int .i64 turn] w fun e w' => e = .returned (.bool true) ∧ Below w.heap.size w w' := by
  have HT := Bx.mk ht
  have HM := Bx.mk hm
  clear ht hm
  go_enter Try.func4, Try.ntmps4
  go_wp2_with fail
  refine (pl_new 1 1 (by decide) (by decide) w).mono ?_
  rintro e w1 ⟨p, X1, rfl, P1, hX1, B1⟩
  go_wp2_with fail
  refine (around_nat more 9 (by omega) HM.out.1 HM.out.2 (by omega) _).mono ?_
  rintro e w2 ⟨a, ha, _, rfl, rfl⟩
  obtain ⟨N, hN⟩ : ∃ N : Nat, 1020 + (a : Int) = (N : Int) := ⟨1020 + a, by omega⟩
  have hN1 : 1020 ≤ N := by omega
  have hN2 : N ≤ 1029 := by omega
  go_upto_region 5 with fail
  clear hN ha
  go_wp2_with fail
  refine (around_nat turn N (by omega) HT.out.1 HT.out.2 (by omega) _).mono ?_
  rintro e w2 ⟨k, hk, _, rfl, rfl⟩
  go_wp2_with fail
  go_loopw [9, 10, 11] (fun u _ _ W => ∃ (i : Nat) (D : Pl) (X : Nat → Prop), u = .int .i64 (i : Int) ∧ i ≤ N ∧ PL W p X D ∧ Bx (Mny N k i D) ∧ Below w.heap.size w W ∧ Bx (∀ b, X b → w.heap.size ≤ b)) (fun u _ _ _ => N - (intOf u).toNat)
  case atStart => exact ⟨0, _, _, rfl, Nat.zero_le _, P1, ⟨Mny.new N k⟩, B1, ⟨hX1⟩⟩
  case round =>
    rename World => W
    obtain ⟨i, D, X, rfl, hi, P, HY, B, HX⟩ := hrel
    by_cases hlt : i < N
    · have hltI : (i : Int) < (N : Int) := by omega
      have hmod : ((i : Int) + (k : Int)) % (N : Int) = (((i + k) % N : Nat) : Int) := by push_cast; rfl
      obtain ⟨e1, HY2⟩ := HY.out.add P.ok hlt
      have hml : (i + k) % N < 2000 := by have := Nat.mod_lt (i + k) (show 0 < N by omega); omega
      have HA := Bx.mk (pl_add ((((i + k) % N : Nat) : Int)) (.slice none 0 0) [] W P (by omega) (Rv.nil _) (by decide))
      have HE := Bx.mk e1
      have HH2 := Bx.mk HY2
      obtain ⟨id, hid⟩ : ∃ id, (i + k) % N = id := ⟨_, rfl⟩
      rw [hid] at HA HE HH2 hmod
      have hnn : 0 ≤ (i : Int) + (k : Int) := by omega
      clear e1 HY2 hml hid
      go_wp2_with fail
      refine HA.out.mono ?_
      rintro e w2 ⟨rfl, X2, P2, S2⟩
      rw [HE.out]
      obtain ⟨B2, hX2⟩ := bT _ B S2 HX.out (Nat.le_refl _)
      by_cases h1 : i < 1024
      · rw [if_pos h1]
        have h1I : (i : Int) < 1024 := by omega
        clear HA HE
        go_wp2_with fail
        go_roundw
        case rel => exact ⟨i + 1, _, _, by simp, by omega, P2, HH2, B2, ⟨hX2⟩⟩
        case measure => simp [intOf]; omega
      · rw [if_neg h1]
        have h1I : ¬ (i : Int) < 1024 := by omega
        clear HA HE
        go_wp2_with fail
        go_roundw
        case rel => exact ⟨i + 1, _, _, by simp, by omega, P2, HH2, B2, ⟨hX2⟩⟩
        case measure => simp [intOf]; omega
    · obtain rfl : i = N := by omega
      have ho := HY.out.opn P.ok
      have hl := HY.out.len
      have HO := Bx.mk (pl_open W P)
      rw [ho] at HO
      have HT2 := Bx.mk (HY.out.two P.ok)
      have HTL : Bx (TL 0 D) := ⟨fun x e he => by rw [HY.out.ts x e he]; exact Nat.le_refl _⟩
      obtain ⟨ids, hids⟩ : ∃ l, D.ids = l := ⟨_, rfl⟩
      rw [hids] at HO HT2 hl
      have hmn : min i 1024 = ids.length := hl.symm
      have hminI : min (i : Int) 1024 = (ids.length : Int) := by omega
      obtain ⟨m, hm⟩ : ∃ m, ids.length = m := ⟨_, rfl⟩
      rw [hm] at hminI
      have HMM := Bx.mk hm
      have hm2 : 1020 ≤ m := by omega
      clear ho hl hmn hids HY
      go_wp2_with fail
      refine HO.out.mono ?_
      rintro e w2 ⟨v, rfl, O2, B2⟩
      rw [HMM.out] at O2
      have P2 := P.later B2
      have BB := bel B B2
      obtain ⟨va, vc, rfl⟩ := own_isSlice O2
      go_wp2_with fail
      go_loopw [13, 14, 15, 16, 17, 18, 19] (fun u _ _ _ _ _ _ W => ∃ (i : Nat) (D : Pl) (X : Nat → Prop), u = .int .i64 (i : Int) ∧ i ≤ 5 ∧ PL W p X D ∧ Bx (Mny2 ids i D) ∧ Bx (TL i D) ∧ W.ownsRow 0 3 1 (.slice va m vc) m (ids.map (Value.int .i64)) ∧ Below w.heap.size w W ∧ Bx (∀ b, X b → w.heap.size ≤ b)) (fun u _ _ _ _ _ _ _ => 5 - (intOf u).toNat)
      case atStart => exact ⟨0, _, _, rfl, Nat.zero_le _, P2, HT2, HTL, own_base O2 (Nat.zero_le _), BB, HX⟩
      case round =>
        clear P2 B2 BB HO HT2 HTL HX P B B1 P1 hX1 O2
        rename World => W
        obtain ⟨i, D, X, rfl, hi, P, HY, HL, O, B, HX⟩ := hrel
        by_cases hlt : i < 5
        · have hltI : (i : Int) < 5 := by omega
          obtain ⟨x, hx⟩ : ∃ x, ids[i]? = some x := ⟨_, List.getElem?_eq_getElem (by have := HMM.out; omega)⟩
          obtain ⟨e1, e2, e3, HY2⟩ := HY.out.step P.ok hx (by omega)
          obtain ⟨g, c', hv, hc, _, hcell⟩ := row_at O (by omega)
          injection hv with v1 v2 v3
          subst v1
          clear v2 v3
          have hcell := hcell i (.int .i64 x) (by rw [List.getElem?_map, hx]; rfl)
          have HA := Bx.mk (pl_askAt 0 (i : Int) W P HL.out (by omega) e1)
          have HE2 := Bx.mk e2
          have HE3 := Bx.mk e3
          have HHY := Bx.mk HY2
          have HTL2 := Bx.mk ((HL.out.ask 0 (i : Int)).answer x 0 0 [] (i : Int))
          have hmi : (i : Int) < (m : Int) := by omega
          clear e1 e2 e3 HY2 hx
          go_wp2_with fail
          refine HA.out.mono ?_
          rintro e w2 ⟨a2, c2, X2, rfl, P2, S2⟩
          obtain ⟨B2, hX2⟩ := bT _ B S2 HX.out (Nat.le_refl _)
          have O2 := own_step O S2 (P.off O (by decide))
          have hcell2 := (S2.block g (World.block_lt_of_cell? _ _ hcell) (fun h => by
            have := P.off O (by decide) g rfl
            exact this h))
          have hcell : w2.cell? ⟨g, i, none⟩ = some (.int .i64 x) := by
            unfold World.cell? at hcell ⊢
            rw [hcell2]
            exact hcell
          clear hcell2
          go_upto_region 20 with fail
          have hb := World.alloc_heap_new w2 (.cells #[.int .i64 x, .slice a2 0 c2] 37)
          have BA := (Below.refl w2.heap.size w2).alloc (Nat.le_refl _) (.cells #[.int .i64 x, .slice a2 0 c2] 37)
          have P3 := P2.later BA
          have O3 := own_below O2 BA
          have hcell := (BA.cell (p := ⟨g, i, none⟩) (World.block_lt_of_cell? _ _ hcell)).trans hcell
          have B3 := bel B2 BA
          generalize w2.alloc (.cells #[.int .i64 x, .slice a2 0 c2] 37) = w3 at *
          obtain ⟨bb, hbb⟩ : ∃ b, w2.heap.size = b := ⟨_, rfl⟩
          rw [hbb] at hb ⊢
          have hq : w3.cell? ⟨bb, 0, none⟩ = some (.int .i64 x) := by simp [World.cell?, hb]
          have HB := Bx.mk hb
          have HAN := Bx.mk (pl_answer x 0 0 (.slice none 0 0) [] (i : Int) w3 P3 (by decide) (Rv.nil _) (by decide) (fun b hb => by cases hb))
          have HB3 := Bx.mk B3
          clear HA P2 S2 B2 O2 hbb BA hb B3
          go_wp2_with fail
          refine HAN.out.mono ?_
          rintro e w4 ⟨rfl, X4, P4, S4⟩
          obtain ⟨B4, hX4⟩ := bT _ HB3.out S4 hX2 (Nat.le_refl _)
          have O4 := own_step O3 S4 (P3.off O3 (by decide))
          have hb4 := P3.blk S4 HB.out (by decide)
          have hq : w4.cell? ⟨bb, 0, none⟩ = some (.int .i64 x) := by simp [World.cell?, hb4]
          have hcell2 := (S4.block g (World.block_lt_of_cell? _ _ hcell) (fun h => by
            have := P3.off O3 (by decide) g rfl
            exact this h))
          have hcell : w4.cell? ⟨g, i, none⟩ = some (.int .i64 x) := by
            unfold World.cell? at hcell ⊢
            rw [hcell2]
            exact hcell
          rw [HE2.out, HE3.out]
          have HP4 := Bx.mk P4
          have HB4 := Bx.mk B4
          have HO4 := Bx.mk O4
          clear hcell2 HAN HB3 S4 O3 hb4 HE2 HE3 P3 P4 B4 O4 P O B HL HY HX
          go_wp2_with fail
          go_quiet (fail)
          go_wp2_with fail
          go_roundw
          case rel => exact ⟨i + 1, _, _, by simp, by omega, HP4.out.later (belD (Below.refl _ _) nq), HHY, HTL2, HO4.out, belD HB4.out nq, ⟨hX4⟩⟩
          case measure => simp [intOf]; omega
        · obtain rfl : i = 5 := by omega
          have HLV := Bx.mk (lives34_any W)
          clear P HY HL O HX
          go_wp2_with fail
          refine HLV.out.mono ?_
          rintro e w2 ⟨rfl, B2⟩
          go_wp2_with fail
          go_ret
          exact ⟨rfl, bel B B2⟩
end Go.Proofs.Ytfdacckkdjpjhaa
