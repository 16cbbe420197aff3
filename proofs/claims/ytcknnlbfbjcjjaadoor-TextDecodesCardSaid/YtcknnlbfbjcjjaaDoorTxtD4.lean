/- The law TextDecodes. -/
import Derived.Test.YtcknnlbfbjcjjaaDoorTxtD3
namespace Go.Proofs.YtcknnlbfbjcjjaaDoor
open Go.RowKit

set_option maxRecDepth 20000 in
set_option maxHeartbeats 40000000 in
theorem law_TextDecodes (u r : Value) (l : List Int) (raw : List UInt8) (cut : Int) (c : UInt8) (runes : Bool) (w : World) (hu : Rv w u l.length (l.map (Value.int .i64))) (hr : Rv w r raw.length (raw.map vB))
    (hl : ∀ x ∈ l, -9223372036854775808 ≤ x ∧ x ≤ 9223372036854775807) (hc : -9223372036854775808 ≤ cut ∧ cut ≤ 9223372036854775807) (hF : FM w) :
    Calls Tryd.prog 3 #[u, r, .int .i64 cut, vB c, .bool runes] w (RetTB w) := by
  have hw0 : 0 < w.heap.size := World.block_lt_of_cell? w _ (hF 0 (by omega))
  have HX := Lib.hid hl
  have HC := Lib.hid hc
  clear hl hc
  obtain ⟨ar, cr, er, _, _⟩ := hr.opened
  subst er
  unfold vB
  go_enter Tryd.func3, Tryd.ntmps3
  go_wp2_with fail
  refine (text_any u l 20 true w hu HX.out (by omega)).mono ?_
  rintro e w1 ⟨v1, rfl, M1⟩
  have n1 := textM_le l 20 true
  generalize textM l 20 true = t at *
  have B1 := M1.2
  have R1 := M1.rv
  rw [List.length_map] at R1
  clear M1
  have hen := encM_len t true
  have hel : (encR t true).length ≤ 80 := by unfold encR; split; · omega
                                             · simp
  have hre := fun v w1 h1 => rencode_any v t true w1 h1 (by omega)
  generalize encR t true = b at *
  generalize valM t true = rv at *
  have HRE := Lib.hid hre
  clear hre hen
  go_wp2_with fail
  refine (HRE.out _ _ R1).mono ?_
  rintro e w2 ⟨vb, rfl, M2⟩
  have B2 := bel B1 M2.2
  have RB := M2.rv
  rw [List.length_map] at RB
  obtain ⟨ab, cb, e2, hbc, _⟩ := RB.opened
  subst e2
  clear M2 B1 R1 HRE
  go_upto_if 31 with (at_builtin; refine wpList_app _ rfl _ _ rfl Tryd.elB w2.heap.size _ 0 _ rfl (own_empty w2 _) _ b.length _ rfl (RB.below ((Below.refl _ _).alloc (Nat.le_refl _) _)) (by simp) (ones_B _) (by omega) (by simp) ?_; intro v3 w3 O3 hg3 _; obtain ⟨k3, a3, c3, rfl⟩ := own_shape O3; have e3 := own_kk3 (Rv.of_own O3); subst e3)
  have b3 : Below w2.heap.size w2 w3 := ((Below.refl _ w2).alloc (Nat.le_refl _) _).grown hg3 (by simp) (fun g hg => by cases hg; exact Nat.le_refl _)
  have O3 : w3.ownsRow w2.heap.size 5 1 (.slice a3 b.length c3) b.length (b.map vB) := by simpa using O3
  clear hg3
  go_cut [] from 31 to 38 (fun wx => ∃ b' : List UInt8, b'.length = b.length ∧ Rv wx (.slice a3 b.length c3) b.length (b'.map vB) ∧ Below w2.heap.size w2 wx)
  case first =>
    by_cases hb0 : 0 < b.length
    · have hbi : (0 : Int) < (b.length : Int) := by omega
      go_wp2_with fail
      refine (around_nat cut b.length (by omega) HC.out.1 HC.out.2 (by omega) _).mono ?_
      rintro e w' ⟨k, hk, _, rfl, rfl⟩
      obtain ⟨m, hm⟩ : ∃ m, b.length = m + 1 := ⟨b.length - 1, by omega⟩
      have hown : w3.ownsRow w2.heap.size 5 1 (.slice a3 b.length c3) (m + 1) (b.map vB) := by rw [← hm]; exact O3
      obtain ⟨g4, cap4, e4, hg4, hc4, hcell4, hfr4⟩ := own_open hown
      injection e4 with e5 e7 e6
      clear e7
      subst e5
      subst e6
      have hcx := hcell4 k (by omega)
      rw [List.getElem?_map, List.getElem?_eq_getElem hk] at hcx
      simp only [Option.map_some, vB] at hcx
      have hfx := hfr4 k
      have hst := O3.stored k (vB c)
      have HM := Lib.hid hm
      clear hm hfr4 hcell4
      go_wp2_with fail
      go_meet
      refine ⟨b.set k c, by simp, ?_, b3.setCell (p := ⟨g4, k, none⟩) hg4 _⟩
      have h := Rv.of_own hst.1
      rw [← List.map_set] at h
      exact h
    · have hbi : ¬ (0 : Int) < (b.length : Int) := by omega
      go_wp2_with fail
      go_meet
      exact ⟨b, rfl, Rv.of_own O3, b3⟩
  case rest =>
  obtain ⟨b', hb', RE, B3⟩ := hcut
  have R3 := RB.below B3
  have B3 := bel B2 B3
  clear O3 b3
  go_wp2_with fail
  refine wp_region_any (by kernel_rfl) ?_
  change wpAny _ _ _ _ _ _ _ (World.drew _)
  refine wpAny_do 0 39 rfl rfl (by kernel_rfl) (by kernel_rfl) (by kernel_rfl) (fun _ _ _ _ _ h => h) (by kernel_rfl) (by intro w; go_simp; try with_reducible rfl) ?_
  simp only [List.setIfInBounds_toArray, List.set_cons_succ, List.set_cons_zero]
  refine wpAny_do 1 40 rfl rfl (by kernel_rfl) (by kernel_rfl) (by kernel_rfl) (fun _ _ _ _ _ h => h) (by kernel_rfl) (by intro w; go_simp; try with_reducible rfl) ?_
  simp only [List.setIfInBounds_toArray, List.set_cons_succ, List.set_cons_zero]
  refine wpAny_do 3 42 rfl rfl (by kernel_rfl) (by kernel_rfl) (by kernel_rfl) (fun _ _ _ _ _ h => h) (by kernel_rfl) (by intro w; go_simp; try with_reducible rfl) ?_
  simp only [List.setIfInBounds_toArray, List.set_cons_succ, List.set_cons_zero]
  refine wpAny_do 5 44 rfl rfl (by kernel_rfl) (by kernel_rfl) (by kernel_rfl) (fun _ _ _ _ _ h => h) (by kernel_rfl) (by intro w; go_simp; try with_reducible rfl) ?_
  simp only [List.setIfInBounds_toArray, List.set_cons_succ, List.set_cons_zero]
  refine wpAny_do 7 46 rfl rfl (by kernel_rfl) (by kernel_rfl) (by kernel_rfl) (fun _ _ _ _ _ h => h) (by kernel_rfl) (by intro w; go_simp; try with_reducible rfl) ?_
  simp only [List.setIfInBounds_toArray, List.set_cons_succ, List.set_cons_zero]
  refine wpAny_do 10 49 rfl rfl (by kernel_rfl) (by kernel_rfl) (by kernel_rfl) (fun _ _ _ _ _ h => h) (by kernel_rfl) (by intro w; go_simp; try with_reducible rfl) ?_
  simp only [List.setIfInBounds_toArray, List.set_cons_succ, List.set_cons_zero]
  refine wpAny_do 11 50 rfl rfl (by kernel_rfl) (by kernel_rfl) (by kernel_rfl) (fun _ _ _ _ _ h => h) (by kernel_rfl) (by intro w; go_simp; try with_reducible rfl) ?_
  simp only [List.setIfInBounds_toArray, List.set_cons_succ, List.set_cons_zero]
  refine wpAny_do 12 51 rfl rfl (by kernel_rfl) (by kernel_rfl) (by kernel_rfl) (fun _ _ _ _ _ h => h) (by kernel_rfl) (by intro w; go_simp; try with_reducible rfl) ?_
  simp only [List.setIfInBounds_toArray, List.set_cons_succ, List.set_cons_zero]
  refine wpAny_do 13 52 rfl rfl (by kernel_rfl) (by kernel_rfl) (by kernel_rfl) (fun _ _ _ _ _ h => h) (by kernel_rfl) (by intro w; go_simp; try with_reducible rfl) ?_
  simp only [List.setIfInBounds_toArray, List.set_cons_succ, List.set_cons_zero]
  have hw53 : IntKind.i64.wrap ((b.length : Int) + 1) = (b.length : Int) + 1 := by rw [IntKind.wrap_i64]; omega
  refine wpAny_do (v := .int .i64 ((b.length : Int) + 1)) 14 53 rfl rfl (by kernel_rfl) (by kernel_rfl) (by kernel_rfl) (fun _ _ _ _ _ h => h) (by kernel_rfl) (by intro w; go_simp) ?_
  clear hw53
  simp only [List.setIfInBounds_toArray, List.set_cons_succ, List.set_cons_zero]
  refine wpAny_do 17 56 rfl rfl (by kernel_rfl) (by kernel_rfl) (by kernel_rfl) (fun _ _ _ _ _ h => h) (by kernel_rfl) (by intro w; go_simp; try with_reducible rfl) ?_
  simp only [List.setIfInBounds_toArray, List.set_cons_succ, List.set_cons_zero]
  refine wpAny_do 19 58 rfl rfl (by kernel_rfl) (by kernel_rfl) (by kernel_rfl) (fun _ _ _ _ _ h => h) (by kernel_rfl) (by intro w; go_simp; try with_reducible rfl) ?_
  simp only [List.setIfInBounds_toArray, List.set_cons_succ, List.set_cons_zero]
  refine wpAny_named fun G T0 hT0 hG hG' => ?_
  have e39 : T0[39]? = some (.slice ab b.length cb) := by rw [hT0]; rfl
  have e40 : T0[40]? = some (.slice ar raw.length cr) := by rw [hT0]; rfl
  have e42 : T0[42]? = some (.slice a3 b.length c3) := by rw [hT0]; rfl
  have e44 : T0[44]? = some (.slice ab b.length cb) := by rw [hT0]; rfl
  have e46 : T0[46]? = some (.int .u8 (c.toNat : Int)) := by rw [hT0]; rfl
  have e49 : T0[49]? = some (.slice ab b.length cb) := by rw [hT0]; rfl
  have e50 : T0[50]? = some (.int .i64 cut) := by rw [hT0]; rfl
  have e53 : T0[53]? = some (.int .i64 ((b.length : Int) + 1)) := by rw [hT0]; rfl
  have e56 : T0[56]? = some (.int .u8 (c.toNat : Int)) := by rw [hT0]; rfl
  have e58 : T0[58]? = some (.slice ar raw.length cr) := by rw [hT0]; rfl
  have hsz0 : T0.size = 96 := by rw [hT0]; rfl
  have hst0 : StD wc T0 b c ab cb 0 false false false T0 wc.drew := by
    have hun : ∀ k, liveD 0 k → T0[k]? = some undef := by
      intro k hk
      have hk2 : k = 41 ∨ k = 43 ∨ k = 47 ∨ k = 48 ∨ k = 57 ∨ k = 59 := by unfold liveD at hk; omega
      rw [hT0]
      rcases hk2 with rfl | rfl | rfl | rfl | rfl | rfl <;> rfl
    have hub : (undef : Value).ownBlock = none := rfl
    refine ⟨(Below.refl _ _).drew, hsz0, fun _ _ _ _ _ _ _ _ _ _ _ => rfl, fun k hk v g e1 e2 => ?_, fun i j hi hj hij v u g e1 e2 e3 => ?_, fun h => absurd h (by omega), fun h => absurd h (by decide), fun h => absurd h (by omega), fun h => absurd h (by decide), fun h => absurd h (by omega), fun h => absurd h (by omega), fun h => absurd h (by decide), fun h => absurd h (by omega), fun h => absurd h (by omega)⟩
    · rw [hun k hk] at e1; cases e1; rw [hub] at e2; cases e2
    · rw [hun i hi] at e1; cases e1; rw [hub] at e3; cases e3
  have HT0 := Lib.hid hT0
  have HG := Lib.hid hG
  have HG' := Lib.hid hG'
  clear hT0 hG hG'
  have st6111 : ∀ (T : Array Value) (w5 : World), StD wc T0 b c ab cb 6 true true true T w5 → G 2 #[true, true, true, true, true, true, true, true, true, true, true, true, true, true, true, true, true, true, true, true, true, true, false, false] T w5 := by
    intro T w5 hs
    refine HG.out _ _ _ _ ?_
    have t39 := (hs.keep 39 (by decide) (by decide) (by decide) (by decide) (by decide) (by decide) (by decide) (by decide) (by decide) (by decide)).trans e39
    have t42 := (hs.keep 42 (by decide) (by decide) (by decide) (by decide) (by decide) (by decide) (by decide) (by decide) (by decide) (by decide)).trans e42
    obtain ⟨x1, y1, q1, t41, hq1, R41⟩ := hs.s41 (by omega)
    obtain ⟨x2, y2, t48, R48⟩ := hs.s48 (by omega)
    obtain ⟨k, hk, t55⟩ := hs.s54 (by omega)
    obtain ⟨x3, y3, q3, t60, hq3, R60⟩ := hs.s60 (by omega)
    have hB5 := bel B3 hs.bel
    have RB5 := R3.below hs.bel
    have RE5 := RE.below hs.bel
    have hfr := frameD hs.size hsz0 hs.keep
    have HFR := Lib.hid hfr
    clear hfr
    refine wpAny_ready (rs := [22]) (by kernel_rfl) (by simp) ?_
    refine AllReady.cons rfl (fun K hK => ?_) AllReady.nil
    go_simp
    refine hK _ _ ?_
    clear hK K
    have t61 : (T.setIfInBounds 61 (.slice (some ⟨w5.heap.size, 0, none⟩) 6 6))[61]? = some (.slice (some ⟨w5.heap.size, 0, none⟩) 6 6) := tset_self T _ (by rw [hs.size]; omega)
    refine wpAny_do (tmps := T.setIfInBounds 61 (.slice (some ⟨w5.heap.size, 0, none⟩) 6 6)) (v := .slice (some ⟨w5.heap.size, 0, none⟩) 6 6) 23 14 rfl rfl (by kernel_rfl) (by kernel_rfl) (by kernel_rfl) (fun _ _ _ _ _ h => h) (by kernel_rfl) ?hx ?_
    case hx =>
      intro w
      generalize T.setIfInBounds 61 (.slice (some ⟨w5.heap.size, 0, none⟩) 6 6) = T2 at *
      go_simp
    refine wpAny_done (by kernel_rfl) ?_ _
    rw [HFR.out, HT0.out]
    simp only [t41, t48, t55, t60, Option.getD_some]
    generalize T[43]?.getD undef = z43
    generalize T[45]?.getD undef = z45
    generalize T[47]?.getD undef = z47
    generalize T[54]?.getD undef = z54
    generalize T[57]?.getD undef = z57
    generalize T[59]?.getD undef = z59
    clear HFR hs t39 t41 t42 t48 t55 t60 t61 HT0 HG HG' hst0 e39 e40 e42 e44 e46 e49 e50 e53 e56 e58 hsz0
    clear T T0
    simp only [List.setIfInBounds_toArray, List.set_cons_succ, List.set_cons_zero]
    have RK5 : Rv w5 (.slice ab k cb) (b.take k).length ((b.take k).map vB) := by
      obtain ⟨ao, cap, he, _, h⟩ := RB5.firsts k hk
      cases he
      rw [List.length_take, Nat.min_eq_left hk, List.map_take]
      exact h k rfl
    have T7 := Tab.new (f := vB) (w := w5) [(Value.slice ab b.length cb, b), (Value.slice x1 q1.length y1, q1), (Value.slice a3 b.length c3, b'), (Value.slice x2 (b.length + 1) y2, b ++ [c]), (Value.slice ab k cb, b.take k), (Value.slice x3 q3.length y3, q3)] 23 (by
      intro p hp
      simp at hp
      rcases hp with rfl | rfl | rfl | rfl | rfl | rfl
      · exact RB5
      · exact R41
      · show Rv w5 _ b'.length _; rw [hb']; exact RE5
      · show Rv w5 _ (b ++ [c]).length _; rw [List.length_append]; exact R48
      · exact RK5
      · exact R60)
    have hL : ∀ p ∈ [(Value.slice ab b.length cb, b), (Value.slice x1 q1.length y1, q1), (Value.slice a3 b.length c3, b'), (Value.slice x2 (b.length + 1) y2, b ++ [c]), (Value.slice ab k cb, b.take k), (Value.slice x3 q3.length y3, q3)], p.2.length ≤ 100 := by
      intro p hp
      simp at hp
      rcases hp with rfl | rfl | rfl | rfl | rfl | rfl
      · simp only; omega
      · simp only; omega
      · simp only; omega
      · simp only [List.length_append, List.length_cons, List.length_nil]; omega
      · simp only [List.length_take]; omega
      · simp only; omega
    have hLl : [(Value.slice ab b.length cb, b), (Value.slice x1 q1.length y1, q1), (Value.slice a3 b.length c3, b'), (Value.slice x2 (b.length + 1) y2, b ++ [c]), (Value.slice ab k cb, b.take k), (Value.slice x3 q3.length y3, q3)].length = 6 := rfl
    have B7 := hB5.alloc hB5.size (.cells #[.slice ab b.length cb, .slice x1 q1.length y1, .slice a3 b.length c3, .slice x2 (b.length + 1) y2, .slice ab k cb, .slice x3 q3.length y3] 23)
    have T7 : Tab vB (w5.alloc (.cells #[.slice ab b.length cb, .slice x1 q1.length y1, .slice a3 b.length c3, .slice x2 (b.length + 1) y2, .slice ab k cb, .slice x3 q3.length y3] 23)) w5.heap.size _ := T7
    generalize [(Value.slice ab b.length cb, b), (Value.slice x1 q1.length y1, q1), (Value.slice a3 b.length c3, b'), (Value.slice x2 (b.length + 1) y2, b ++ [c]), (Value.slice ab k cb, b.take k), (Value.slice x3 q3.length y3, q3)] = L at *
    have HL := Lib.hid hL
    clear hL R41 R48 R60 RB5 RE5 RK5 hB5 RB RE R3 hr hu
    generalize w5.heap.size = bb at *
    generalize (w5.alloc (.cells #[.slice ab b.length cb, .slice x1 q1.length y1, .slice a3 b.length c3, .slice x2 (b.length + 1) y2, .slice ab k cb, .slice x3 q3.length y3] 23)) = W at *
    go_wp2_with fail
    go_loopw [15] (fun iv wr => ∃ i : Nat, iv = .int .i64 (i : Int) ∧ i ≤ 6 ∧ Below W.heap.size W wr) (fun iv _ => 6 - (intOf iv).toNat)
    case atStart => exact ⟨0, rfl, by omega, Below.refl _ _⟩
    case round =>
      obtain ⟨i, rfl, hi, hB⟩ := hrel
      have hF8 := hF.below (bel B7 hB) hw0
      by_cases hlt : i < 6
      · obtain ⟨hc1, hr1⟩ := (T7.below hB) i (by omega)
        have hle := HL.out L[i] (List.getElem_mem (by omega))
        generalize L[i] = p at *
        obtain ⟨pv, pl⟩ := p
        simp only at hc1 hr1 hle
        obtain ⟨ap, cp, rfl, _, _⟩ := hr1.opened
        clear T7
        go_wp2_with fail
        have hd := fun w1 h1 h2 => decode_any (.slice ap pl.length cp) pl runes w1 h1 (by omega) h2
        have hrd := fun w1 h1 => rdecode_any (.slice ap pl.length cp) pl runes w1 h1 (by omega)
        generalize decE (decM runes pl) = ee at *
        generalize decL (decM runes pl) = dl at *
        have HDD := Lib.hid hd
        have HRD := Lib.hid hrd
        clear hd hrd
        refine (HDD.out _ hr1 hF8).mono ?_
        rintro e w8 ⟨v8, rfl, O8, C8⟩
        have hc8 := (C8.cell (p := ⟨bb, i, none⟩) (World.block_lt_of_cell? _ _ hc1)).trans hc1
        have r8 := hr1.below C8
        have D8 := bel hB C8
        have Q8 := Rv.of_own O8
        clear hc1 hr1 hB O8 C8 hF8
        go_wp2_with fail
        refine (HRD.out _ r8).mono ?_
        rintro e w9 ⟨v9, rfl, O9, C9⟩
        have Q9 := Rv.of_own O9
        have P8 := Q8.below C9
        have D9 := bel D8 C9
        clear hc8 r8 D8 O9 C9 Q8
        go_wp2_with fail
        refine (sameInts_refl _ _ dl _ P8 Q9).mono ?_
        rintro e w10 ⟨rfl, n10, h10⟩
        have D10 : Below W.heap.size W w10 := by rw [h10]; exact belD D9 _
        clear h10 D9 P8 Q9
        go_wp2_with fail
        go_roundw
        case rel => exact ⟨i + 1, by go_num, by omega, D10⟩
        case measure => simp [intOf]; omega
      · obtain rfl : i = 6 := by omega
        have B8 := bel B7 hB
        clear T7 hB
        go_wp2_with fail
        refine (lives4_any _ hF8).mono ?_
        rintro e w9 ⟨rfl, C9⟩
        go_wp2_with fail
        go_ret
        exact ⟨rfl, bel B8 C9⟩
  have X : CtxD _ _ _ G w wc T0 b raw c cut ab ar a3 cb cr c3 := ⟨HG.out, HG'.out, e39, e40, e42, e44, e46, e49, e50, e53, e56, e58, hr, R3, B3, HC, hel, hbc, fun _ _ _ _ _ h => h⟩
  have st5111 := st5111_any X st6111
  have st4111 := st4111_any X st5111
  have st5110 := st5110_any X st5111
  have st4110 := st4110_any X st4111 st5110
  have st3111 := st3111_any X st4111
  have st3110 := st3110_any X st4110 st3111
  have st2111 := st2111_any X st3111
  have st2110 := st2110_any X st3110 st2111
  have st2101 := st2101_any X st2111
  have st2100 := st2100_any X st2110 st2101
  have st1111 := st1111_any X st2111
  have st1110 := st1110_any X st2110 st1111
  have st1101 := st1101_any X st2101 st1111
  have st1100 := st1100_any X st2100 st1110 st1101
  have st1011 := st1011_any X st1111
  have st1010 := st1010_any X st1110 st1011
  have st1001 := st1001_any X st1101 st1011
  have st1000 := st1000_any X st1100 st1010 st1001
  have st0111 := st0111_any X st1111
  have st0110 := st0110_any X st1110 st0111
  have st0101 := st0101_any X st1101 st0111
  have st0100 := st0100_any X st1100 st0110 st0101
  have st0011 := st0011_any X st1011 st0111
  have st0010 := st0010_any X st1010 st0110 st0011
  have st0001 := st0001_any X st1001 st0101 st0011
  have st0000 := st0000_any X st1000 st0100 st0010 st0001
  exact st0000 T0 wc.drew hst0
end Go.Proofs.YtcknnlbfbjcjjaaDoor
