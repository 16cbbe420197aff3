/- The law ProtoReads. -/
import Derived.Test.YtadhghikanjkeaaPrtFg
namespace Go.Proofs.Ytadhghikanjkeaa
open Go.RowKit

set_option maxRecDepth 20000 in
set_option maxHeartbeats 4000000 in
theorem law_ProtoReads (u cu : Value) (l cs : List Int) (at' : Int) (c : UInt8) (sp : Bool) (w : World) (hu : Rv w u l.length (l.map (Value.int .i64))) (hcu : Rv w cu cs.length (cs.map (Value.int .i64)))
    (hl : I64 l) (hcs : I64 cs) (hat : -9223372036854775808 ≤ at' ∧ at' ≤ 9223372036854775807) :
    Calls Try.prog 7 #[u, cu, .int .i64 at', vB c, .bool sp] w (RetT w) := by
  obtain ⟨al, cl, rfl, _, _⟩ := hu.opened
  obtain ⟨ac, cc, rfl, _, _⟩ := hcu.opened
  have HAT := Lib.hid hat
  clear hat
  unfold vB
  go_enter Try.func7, Try.ntmps7
  go_wp2_with fail
  go_loopw [11, 12] (fun av iv wr => ∃ (i : Nat) (X : List UInt8), iv = .int .i64 (i : Int) ∧ i ≤ 4 ∧ 20 * i ≤ X.length ∧ X.length ≤ 220 * i ∧ Made w wr 5 av (X.map vB)) (fun _ iv _ => 4 - (intOf iv).toNat)
  case atStart => exact ⟨0, [], by first | rfl | trivial, by omega, by simp, by simp, Made.none w _⟩
  case round =>
    obtain ⟨i, X, rfl, hi, hX1, hX2, M⟩ := hrel
    by_cases hlt : i < 4
    · have hlti : (i : Int) < 4 := by omega
      have hmul : IntKind.i64.wrap (5 * (i : Int)) = 5 * (i : Int) := by rw [IntKind.wrap_i64]; omega
      have hfl := frame_len l (5 * i)
      have HV := Lib.hid (madeM_valid l (5 * i))
      go_wp2_with fail
      refine (made_at5 al cl l (5 * i) _ (by omega) _ (hu.below M.2) hl (by omega)).mono ?_
      rintro e w1 ⟨x, rfl, ⟨ab, af, cb, cf, rfl, M1, _, _⟩, B1⟩
      obtain ⟨m, hm⟩ : ∃ m, madeM l (5 * i) = m := ⟨_, rfl⟩
      have hvm := HV.out
      rw [hm] at M1 hfl hvm ⊢
      have HV := Lib.hid hvm
      clear hvm
      go_wp2_with fail
      refine (core_any m ab af cb cf w1 M1 HV.out).mono ?_
      rintro e w2 ⟨v2, rfl, M2⟩
      obtain ⟨fr, hfr⟩ : ∃ fr, coreP m = fr := ⟨_, rfl⟩
      rw [hfr, framedP_len] at hfl
      rw [hfr] at M2
      obtain ⟨a2, k2, rfl, _, _⟩ := M2.rvB.opened
      have HF2 := framedP_len fr
      go_wp2_with fail
      refine (framed_any _ fr w2 M2.rvB (by omega)).mono ?_
      rintro e w3 ⟨v3, rfl, M3⟩
      have M := ((M.later B1).later M2.2).later M3.2
      have R3 := M3.rvB
      obtain ⟨F, hF⟩ : ∃ F, framedP fr = F := ⟨_, rfl⟩
      rw [hF] at R3 HF2
      have HFL := Lib.hid HF2
      have hFl : 20 ≤ F.length ∧ F.length ≤ 220 := by omega
      have hb3 := M.2.size
      clear M1 M2 M3 B1 hm hfr hF HF2
      go_wp2_with (at_builtin; refine wpList_app2 _ rfl _ _ rfl Try.elB w.heap.size _ _ _ rfl M.1 _ F.length _ rfl R3 (by simp) (ones_B _) (by rw [List.length_map]; omega) hb3 ?_; intro v4 w4 O4 g4 _; refine later ?_)
      have M4 := M.app O4 (by simp) g4
      rw [← List.map_append] at M4
      clear M O4 g4 R3 hb3
      refine Later.in ?_
      go_wp2_with fail
      go_roundw
      case rel => exact ⟨i + 1, X ++ F, by go_num, by omega, by rw [List.length_append]; omega, by rw [List.length_append]; omega, M4⟩
      case measure => simp [intOf]; omega
    · obtain rfl : i = 4 := by omega
      obtain ⟨aX, kX, rfl, _, _⟩ := M.rvB.opened
      have hXp : 0 < X.length := by omega
      rw [show ((4 : Nat) : Int) = (4 : Int) from rfl]
      go_upto_if 38 with fail
      go_cut [11] from 38 to 45 (fun av wx => ∃ X' : List UInt8, av = .slice aX X'.length kX ∧ X'.length = X.length ∧ Made w wx 5 (.slice aX X'.length kX) (X'.map vB))
      case first =>
        cases sp with
        | false =>
          go_wp2_with fail
          go_meet
          exact ⟨X, rfl, rfl, M⟩
        | true =>
          have hXi : (0 : Int) < (X.length : Int) := by omega
          go_wp2_with fail
          refine (around_nat at' X.length (by omega) HAT.out.1 HAT.out.2 (by omega) _).mono ?_
          rintro e w1 ⟨k1, hk1, _, rfl, rfl⟩
          obtain ⟨mm, hmm⟩ : ∃ mm, X.length = mm + 1 := ⟨X.length - 1, by omega⟩
          have O := M.1
          rw [List.length_map] at O
          obtain ⟨g4, cap4, e4, hg4, hc4, hcell4, hfr4⟩ := own_open (by rw [hmm] at O; exact O)
          injection e4 with e5 e7 e6
          clear e7
          subst e5
          subst e6
          have hcx := hcell4 k1 (by omega)
          have hfx := hfr4 k1
          rw [List.getElem?_map, List.getElem?_eq_getElem hk1] at hcx
          simp only [Option.map_some, vB] at hcx
          have hst := O.stored k1 (vB c)
          clear hmm hcell4 hfr4 hc4
          have hk1i : (k1 : Int) < (X.length : Int) := by omega
          go_wp2_with fail
          go_meet
          have hl2 : (X.set k1 c).length = X.length := List.length_set
          refine ⟨X.set k1 c, by rw [hl2], hl2, ?_, M.2.setCell (p := ⟨g4, k1, none⟩) (by show w.heap.size ≤ g4; omega) _⟩
          have h := hst.1
          rw [← List.map_set] at h
          rw [List.length_map, hl2]
          exact h
      case rest =>
      obtain ⟨Y, rfl, hYl, MY⟩ := hcut
      rename World => wt
      have hYl2 : 80 ≤ Y.length ∧ Y.length ≤ 880 := by omega
      clear hYl hX1 hX2 hXp M
      go_wp2_with fail
      refine (newReader_any wt).mono ?_
      rintro e w1 ⟨rfl, P1, B1, hsz1⟩
      clear hsz1
      have BA := (Below.refl w1.heap.size w1).alloc (Nat.le_refl _) (.cells #[.slice none 0 0, .int .i64 0] 71)
      have T0 : Two wt (w1.alloc (.cells #[.slice none 0 0, .int .i64 0] 71)) wt.heap.size w1.heap.size (.slice none 0 0) (.slice none 0 0) [] 0 :=
        ⟨P1.later BA, ⟨World.alloc_heap_new w1 _, Rv.nil _, (fun _ h => by cases h), (fun h => by cases h)⟩, P1.lt, Nat.le_refl _, (fun _ h => by cases h), (fun h => by cases h), (fun _ h => by cases h), B1.alloc B1.size _⟩
      go_wp2_with fail
      generalize hgw : w1.alloc (.cells #[.slice none 0 0, .int .i64 0] 71) = W0 at T0 ⊢
      generalize w1.heap.size = qm at T0 ⊢
      clear hgw P1 B1 BA
      have RY := MY.rvB
      go_loopw [15, 16] (fun rv iv W => ∃ (i p : Nat) (held : List UInt8) (hv hvm : Value) (err : Int) (A : Option Addr) (C : Nat), iv = .int .i64 (i : Int) ∧ i ≤ 12 ∧ p ≤ Y.length ∧ rv = .slice A (Y.length - p) C ∧ Rv wt (.slice A (Y.length - p) C) (Y.length - p) ((Y.drop p).map vB) ∧ held.length ≤ p ∧ Two wt W wt.heap.size qm hv hvm held err) (fun _ iv _ => 12 - (intOf iv).toNat)
      case atStart => exact ⟨0, 0, [], _, _, 0, aX, kX, by first | rfl | trivial, by omega, Nat.zero_le _, rfl, by simpa using RY, Nat.le_refl _, T0⟩
      case round =>
        rename World => W
        obtain ⟨i, p, held, hv, hvm, err, A, C, rfl, hi, hp, rfl, RR, hhl, T⟩ := hrel
        obtain ⟨r, hr⟩ : ∃ r, Y.length - p = r := ⟨_, rfl⟩
        rw [hr] at RR ⊢
        have HRl := Lib.hid hr
        have hrb : r ≤ 880 := by omega
        have hrC : r ≤ C := by
          obtain ⟨_, _, e1, h, _⟩ := RR.opened
          cases e1
          exact h
        have hhb : held.length ≤ 880 := by omega
        clear hr T0
        go_upto_region 14 with fail
        go_cut [59] from 52 to 108 (fun bv wy => bv = .bool (decide (i < cs.length ∧ i < 12)) ∧ wy = W)
        case first =>
          by_cases h3 : i < cs.length
          · have h3i : (i : Int) < (cs.length : Int) := by omega
            by_cases h4 : i < 12
            · have h4i : (i : Int) < 12 := by omega
              go_wp2_with fail
              go_meet
              exact ⟨by simp [h3, h4], rfl⟩
            · have h4i : ¬ (i : Int) < 12 := by omega
              go_wp2_with fail
              go_meet
              exact ⟨by simp [h4], rfl⟩
          · have h3i : ¬ (i : Int) < (cs.length : Int) := by omega
            go_wp2_with fail
            go_meet
            exact ⟨by simp [h3], rfl⟩
        case rest =>
        obtain ⟨rfl, rfl⟩ := hcut
        rename World => W
        by_cases hq : i < cs.length ∧ i < 12
        · rw [decide_eq_true hq]
          have h3 := hq.1
          have h4 := hq.2
          clear hq
          have hx64 := hcs cs[i] (List.getElem_mem h3)
          obtain ⟨gc, oc, hac, hcell⟩ := (((hcu.below MY.2).below T.bel)).rd.cell (show (cs.map (Value.int .i64))[i]? = some (.int .i64 cs[i]) by rw [List.getElem?_map, List.getElem?_eq_getElem h3]; rfl)
          subst hac
          have h3i : (i : Int) < (cs.length : Int) := by omega
          generalize cs[i] = x at *
          go_upto_region 16 with fail
          go_cut [17] from 52 to 108 (fun kv wy => ∃ k : Nat, kv = .int .i64 (k : Int) ∧ k ≤ r ∧ wy = W)
          case first =>
            by_cases h90 : r ≤ 90
            · have h90i : (r : Int) ≤ 90 := by omega
              go_wp2_with fail
              rw [show ((r : Int) + 1) = ((r + 1 : Nat) : Int) from by omega]
              refine (around_nat x (r + 1) (by omega) hx64.1 hx64.2 (by omega) _).mono ?_
              rintro e w5 ⟨n', hn', _, rfl, rfl⟩
              go_wp2_with fail
              go_meet
              exact ⟨n', rfl, by omega, rfl⟩
            · have h90i : ¬ (r : Int) ≤ 90 := by omega
              have h90j : (90 : Int) < (r : Int) := by omega
              go_wp2_with fail
              refine (around_any x 91 (by omega) hx64.1 hx64.2 (by omega) _).mono ?_
              rintro e w5 ⟨rfl, rfl⟩
              obtain ⟨n', hn', hn2⟩ : ∃ n : Nat, around x 91 = (n : Int) ∧ n ≤ 90 := by
                have h1 := around_lo x 91 (by omega)
                have h2 := around_hi x 91 (by omega)
                exact ⟨(around x 91).toNat, by omega, by omega⟩
              rw [hn']
              clear hn'
              go_wp2_with fail
              go_meet
              exact ⟨n', rfl, by omega, rfl⟩
          case rest =>
          obtain ⟨k, rfl, hk, rfl⟩ := hcut
          rename World => W
          have hRl := HRl.out
          have R1 : Rv wt (.slice A k C) k (((Y.drop p).take k).map vB) := by
            obtain ⟨_, _, e1, _, e3⟩ := RR.firsts k hk
            cases e1
            rw [List.map_take]
            exact e3 k rfl
          have R2 := rvTail RR (by simp; omega) k hk
          obtain ⟨bs, hbs⟩ : ∃ bs, (Y.drop p).take k = bs := ⟨_, rfl⟩
          have hbl : k = bs.length := by rw [← hbs, List.length_take, List.length_drop]; omega
          rw [hbs] at R1
          have hdd : (Y.drop p).drop k = Y.drop (p + k) := by rw [List.drop_drop]
          rw [← List.map_drop, hdd] at R2
          have HR2 := Lib.hid R2
          have htl : Y.length - (p + k) = r - k := by omega
          have HTL := Lib.hid htl
          have hpk : p + k ≤ Y.length := by omega
          clear R2 hRl hbs hdd htl hcell hx64
          subst hbl
          have hF := feedAll_any wt.heap.size hv held bs err _ W T.rd (R1.below T.bel) (by omega)
          have hFm := fun (W1 : World) (h : PRm W1 qm hvm held err) (hb : Rv W1 (.slice A bs.length C) bs.length (bs.map vB)) => mfeedAll_any qm hvm held bs err _ W1 h hb (by omega)
          have hle : (if err ≠ 0 then held else (feedP (held ++ bs)).2.1).length ≤ p + bs.length := by
            split
            · omega
            · have := feedP_left _ (held ++ bs) (Nat.le_refl _)
              rw [List.length_append] at this
              omega
          obtain ⟨ms, hms⟩ : ∃ x, (if err ≠ 0 then [] else (feedP (held ++ bs)).1) = x := ⟨_, rfl⟩
          obtain ⟨hd2, hhd⟩ : ∃ x, (if err ≠ 0 then held else (feedP (held ++ bs)).2.1) = x := ⟨_, rfl⟩
          obtain ⟨er2, her⟩ : ∃ x, (if err ≠ 0 then err else (feedP (held ++ bs)).2.2) = x := ⟨_, rfl⟩
          rw [hms, hhd, her] at hF
          simp only [hms, hhd, her] at hFm
          rw [hhd] at hle
          have HF := Lib.hid hF
          have HFM := Lib.hid hFm
          clear hF hFm hms hhd her
          go_wp2_with fail
          refine HF.out.mono ?_
          rintro e W1 ⟨x, L, hv', rfl, hL, MX, R', S, _⟩
          obtain ⟨PM, _, _, B1⟩ := T.mid S
          go_wp2_with fail
          refine (HFM.out W1 PM (R1.below B1)).mono ?_
          unfold FmPost
          rintro e W2 ⟨y, L', hvm', rfl, hL', MY2, RM, S2, sn⟩
          have T2 := T.step R' S RM S2 sn
          have MX2 := MX.toR S2 T.rm.lt
          have heq := hL.trans hL'.symm
          obtain ⟨am, cm, rfl, _, _⟩ := RM.rv.opened
          have hE1 : (er2 != er2) = false := by simp
          have hE2 : ((hd2.length : Int) != (hd2.length : Int)) = false := by simp
          have hMK : ∀ W' : World, Below W2.heap.size W2 W' → (W'.cell? ⟨qm, 0, none⟩ = some (.slice am hd2.length cm)) ∧ Below W2.heap.size W2 W' := fun W' B => ⟨(RM.later B).c0, B⟩
          have HMK := Lib.hid hMK
          have hsm := fun (W : World) (B : Below W2.heap.size W2 W) => same_any x y L L' W (MX2.later B) (MY2.later B) heq
          have hhe := fun (W : World) (B : Below W2.heap.size W2 W) => held_any wt.heap.size hv' hd2 er2 W (T2.rd.later B)
          have HSM := Lib.hid hsm
          have HHE := Lib.hid hhe
          have hBr := Below.refl W2.heap.size W2
          clear hMK hsm hhe HF HFM MX MY2 RM S2 sn S R' PM T hL hL' heq MX2
          go_upto_region 19 with fail
          go_region_held3 (fun W' => (W'.cell? ⟨qm, 0, none⟩ = some (.slice am hd2.length cm)) ∧ Below W2.heap.size W2 W')
            (first | exact HMK.out _ hBn | exact HMK.out _ hBr.drew)
            (first
              | (go_at_call 30; have hS := (show (_ ∧ Below W2.heap.size W2 _) by assumption).2; refine (HSM.out _ hS).mono ?_; rintro e u6 ⟨rfl, B6⟩; have hBn := bel hS B6)
              | (go_at_call 31; have hS := (show (_ ∧ Below W2.heap.size W2 _) by assumption).2; refine (HHE.out _ hS).mono ?_; rintro e u7 ⟨rfl, h7⟩; have hBn : Below W2.heap.size W2 u7 := (by rw [h7]; exact hS); clear h7))
          have T3 := T2.later hBn
          by_cases hC : C = bs.length
          · go_wp2_with fail
            go_roundw
            case rel =>
              refine ⟨i + 1, p + bs.length, hd2, hv', _, er2, A, 0, by go_num, by omega, hpk, ?_, ?_, hle, T3⟩
              · rw [HTL.out]
              · rw [HTL.out]; exact HR2.out _ _ _ (by rw [if_pos hC]) rfl (by omega)
            case measure => simp [intOf]; omega
          · go_wp2_with fail
            go_roundw
            case rel =>
              refine ⟨i + 1, p + bs.length, hd2, hv', _, er2, A.map (·.add bs.length), C - bs.length, by go_num, by omega, hpk, ?_, ?_, hle, T3⟩
              · rw [HTL.out]
              · rw [HTL.out]; exact HR2.out _ _ _ (by rw [if_neg hC]) rfl rfl
            case measure => simp [intOf]; omega
        · rw [decide_eq_false hq]
          clear hq
          have hRl := HRl.out
          obtain ⟨bs, hbs⟩ : ∃ bs, Y.drop p = bs := ⟨_, rfl⟩
          have hbl : r = bs.length := by rw [← hbs, List.length_drop]; omega
          have R1 := RR
          rw [hbs] at R1
          clear RR hRl hbs HRl
          subst hbl
          have hF := feedAll_any wt.heap.size hv held bs err _ W T.rd (R1.below T.bel) (by omega)
          have hFm := fun (W1 : World) (h : PRm W1 qm hvm held err) (hb : Rv W1 (.slice A bs.length C) bs.length (bs.map vB)) => mfeedAll_any qm hvm held bs err _ W1 h hb (by omega)
          obtain ⟨ms, hms⟩ : ∃ x, (if err ≠ 0 then [] else (feedP (held ++ bs)).1) = x := ⟨_, rfl⟩
          obtain ⟨hd2, hhd⟩ : ∃ x, (if err ≠ 0 then held else (feedP (held ++ bs)).2.1) = x := ⟨_, rfl⟩
          obtain ⟨er2, her⟩ : ∃ x, (if err ≠ 0 then err else (feedP (held ++ bs)).2.2) = x := ⟨_, rfl⟩
          rw [hms, hhd, her] at hF
          simp only [hms, hhd, her] at hFm
          have HF := Lib.hid hF
          have HFM := Lib.hid hFm
          clear hF hFm hms hhd her
          go_wp2_with fail
          refine HF.out.mono ?_
          rintro e W1 ⟨x, L, hv', rfl, hL, MX, R', S, _⟩
          obtain ⟨PM, _, _, B1⟩ := T.mid S
          go_wp2_with fail
          refine (HFM.out W1 PM (R1.below B1)).mono ?_
          unfold FmPost
          rintro e W2 ⟨y, L', hvm', rfl, hL', MY2, RM, S2, sn⟩
          have T2 := T.step R' S RM S2 sn
          have MX2 := MX.toR S2 T.rm.lt
          have heq := hL.trans hL'.symm
          obtain ⟨am, cm, rfl, _, _⟩ := RM.rv.opened
          have hE1 : (er2 == er2) = true := by simp
          have hE2 : ((hd2.length : Int) == (hd2.length : Int)) = true := by simp
          have hMK : ∀ W' : World, Below W2.heap.size W2 W' → (W'.cell? ⟨qm, 0, none⟩ = some (.slice am hd2.length cm)) ∧ Below W2.heap.size W2 W' := fun W' B => ⟨(RM.later B).c0, B⟩
          have HMK := Lib.hid hMK
          have hsm := fun (W : World) (B : Below W2.heap.size W2 W) => same_any x y L L' W (MX2.later B) (MY2.later B) heq
          have hhe := fun (W : World) (B : Below W2.heap.size W2 W) => held_any wt.heap.size hv' hd2 er2 W (T2.rd.later B)
          have HSM := Lib.hid hsm
          have HHE := Lib.hid hhe
          have hBr := Below.refl W2.heap.size W2
          clear hMK hsm hhe HF HFM MX MY2 RM S2 sn S R' PM T hL hL' heq MX2
          go_upto_region 24 with fail
          go_region_held3 (fun W' => (W'.cell? ⟨qm, 0, none⟩ = some (.slice am hd2.length cm)) ∧ Below W2.heap.size W2 W')
            (first | exact HMK.out _ hBn | exact HMK.out _ hBr.drew)
            (first
              | (go_at_call 30; have hS := (show (_ ∧ Below W2.heap.size W2 _) by assumption).2; refine (HSM.out _ hS).mono ?_; rintro e u6 ⟨rfl, B6⟩; have hBn := bel hS B6)
              | (go_at_call 31; have hS := (show (_ ∧ Below W2.heap.size W2 _) by assumption).2; refine (HHE.out _ hS).mono ?_; rintro e u7 ⟨rfl, h7⟩; have hBn : Below W2.heap.size W2 u7 := (by rw [h7]; exact hS); clear h7)
              | (go_at_call 18; have hS := (show (_ ∧ Below W2.heap.size W2 _) by assumption).2; refine (plives_any _).mono ?_; rintro e u8 ⟨rfl, B8⟩; have hBn := bel hS B8))
          go_wp2_with fail
          go_ret
          exact ⟨rfl, bel MY.2 (bel T2.bel hBn)⟩
end Go.Proofs.Ytadhghikanjkeaa
