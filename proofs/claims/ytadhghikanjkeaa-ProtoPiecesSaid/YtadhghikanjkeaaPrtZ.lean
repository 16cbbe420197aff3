/- The law ProtoPieces, its first part. -/
import Derived.Test.YtadhghikanjkeaaPrtZd
import Derived.BigQuiet
import Derived.Deep.RegionHeld3
import Derived.Deep.Cut
import Derived.Deep.CutRange
namespace Go.Proofs.Ytadhghikanjkeaa
open Go.RowKit

theorem made_at (al : Option Addr) (cl : Nat) (l : List Int) (a : Nat) (j : Int) (hj : j = (a : Int)) (w : World) (hl : Rv w (.slice al l.length cl) l.length (l.map (Value.int .i64))) (h64 : I64 l) (ha : a ≤ 1000) :
    Calls Try.prog 8 #[.slice al l.length cl, .int .i64 j] w (MadePost w (madeM l a)) := by
  subst hj
  exact made_any al cl l a w hl h64 ha
def sliceLen : Value → Nat
  | .slice _ n _ => n
  | _ => 0
set_option maxRecDepth 20000 in
set_option maxHeartbeats 2000000 in
theorem law_ProtoPieces (u cu : Value) (l cs : List Int) (at' : Int) (c : UInt8) (w : World) (hu : Rv w u l.length (l.map (Value.int .i64))) (hcu : Rv w cu cs.length (cs.map (Value.int .i64)))
    (hl : I64 l) (hcs : I64 cs) (hat : -9223372036854775808 ≤ at' ∧ at' ≤ 9223372036854775807) :
    Calls Try.prog 6 #[u, cu, .int .i64 at', vB c] w (RetT w) := by
  obtain ⟨al, cl, rfl, _, _⟩ := hu.opened
  obtain ⟨ac, cc, rfl, _, _⟩ := hcu.opened
  have HAT := Lib.hid hat
  clear hat
  unfold vB
  go_enter Try.func6, Try.ntmps6
  go_wp2_with fail
  go_loopw [9, 10] (fun av iv wr => ∃ i : Nat, iv = .int .i64 (i : Int) ∧ i ≤ 3 ∧ Made w wr 5 av ((allP l 4 i).map vB)) (fun _ iv _ => 3 - (intOf iv).toNat)
  case atStart => exact ⟨0, by first | rfl | trivial, by omega, Made.none w _⟩
  case round =>
    obtain ⟨i, rfl, hi, M⟩ := hrel
    by_cases hlt : i < 3
    · have hlti : (i : Int) < 3 := by omega
      have hmul : IntKind.i64.wrap (4 * (i : Int)) = 4 * (i : Int) := by rw [IntKind.wrap_i64]; omega
      have hal := allP_len l 4 i
      have hfl := frame_len l (4 * i)
      have HV := Lib.hid (madeM_valid l (4 * i))
      go_wp2_with fail
      refine (made_at al cl l (4 * i) _ (by omega) _ (hu.below M.2) hl (by omega)).mono ?_
      rintro e w1 ⟨x, rfl, ⟨ab, af, cb, cf, rfl, M1, _, _⟩, B1⟩
      have HS := Lib.hid (allP_succ l 4 i)
      obtain ⟨m, hm⟩ : ∃ m, madeM l (4 * i) = m := ⟨_, rfl⟩
      have hvm := HV.out
      have hss := HS.out
      rw [hm] at M1 hfl hvm hss ⊢
      have HV := Lib.hid hvm
      have HS := Lib.hid hss
      clear hvm hss
      go_wp2_with fail
      refine (real_any m ab af cb cf w1).mono ?_
      rintro e w2 ⟨rfl, B2⟩
      go_wp2_with fail
      refine (encode_any m ab af cb cf w2 (M1.below B2)).mono ?_
      rintro e w3 ⟨B3, hpost⟩
      rw [if_pos HV.out] at hpost
      obtain ⟨v, rfl, hown⟩ := hpost
      have M3 := ((M.later B1).later B2).later B3
      have R3 := Rv.of_own hown
      have hb3 := M3.2.size
      clear M M1 B1 B2 B3 hown hm
      go_wp2_with (at_builtin; refine wpList_app2 _ rfl _ _ rfl Try.elB w.heap.size _ _ _ rfl M3.1 _ (framedP (coreP m)).length _ rfl R3 (by rw [List.length_map, Nat.mul_one]) (ones_B _) (by rw [List.length_map]; omega) hb3 ?_; intro v4 w4 O4 g4 _; refine later ?_)
      have M4 := M3.app O4 (by rw [List.length_map]) g4
      rw [← List.map_append, ← HS.out] at M4
      clear M3 O4 g4 R3 hb3
      refine Later.in ?_
      go_wp2_with fail
      go_roundw
      case rel => exact ⟨i + 1, by go_num, by omega, M4⟩
      case measure => simp [intOf]; omega
    · obtain rfl : i = 3 := by omega
      have hal := allP_len l 4 3
      obtain ⟨X0, hX0⟩ : ∃ X, allP l 4 3 = X := ⟨_, rfl⟩
      rw [hX0] at M hal
      have HX0 := Lib.hid hX0
      clear hX0
      obtain ⟨aX, kX, rfl, _, _⟩ := M.rvB.opened
      have hXp : 0 < X0.length := by omega
      go_wp2_with fail
      refine (around_nat at' X0.length (by omega) HAT.out.1 HAT.out.2 (by omega) _).mono ?_
      rintro e w1 ⟨k1, hk1, HK, rfl, rfl⟩
      obtain ⟨mm, hmm⟩ : ∃ mm, X0.length = mm + 1 := ⟨X0.length - 1, by omega⟩
      have O := M.1
      rw [List.length_map] at O
      have O12' : wr.ownsRow w.heap.size 5 1 (.slice aX X0.length kX) (mm + 1) (X0.map vB) := by rw [← hmm]; exact O
      obtain ⟨g4, cap4, e4, hg4, hc4, hcell4, hfr4⟩ := own_open O12'
      injection e4 with e5 e7 e6
      clear e7
      subst e5
      subst e6
      have hcx := hcell4 k1 (by omega)
      have hfx := hfr4 k1
      rw [List.getElem?_map, List.getElem?_eq_getElem hk1] at hcx
      simp only [Option.map_some, vB] at hcx
      obtain ⟨y, hy⟩ : ∃ y, X0[k1] = y := ⟨_, rfl⟩
      rw [hy] at hcx
      have hst := O.stored k1 (.int .u8 ((y.toNat ^^^ c.toNat : Nat) : Int))
      have HY := Lib.hid hy
      clear hy hmm hcell4 hfr4 O12' hc4
      have hk1i : (k1 : Int) < (X0.length : Int) := by omega
      have hxor : bits BinOp.xor IntKind.u8 (y.toNat : Int) (c.toNat : Int) = ((y.toNat ^^^ c.toNat : Nat) : Int) := u8_xor_nat _ _ y.toNat_lt c.toNat_lt
      go_wp2_with fail
      have OX : (wr.setCell ⟨g4, k1, none⟩ (.int .u8 ((y.toNat ^^^ c.toNat : Nat) : Int))).ownsRow w.heap.size 5 1 (.slice (some ⟨g4, 0, none⟩) X0.length kX) X0.length ((X0.set k1 (y ^^^ c)).map vB) := by
        have h := hst.1
        have e : Value.int .u8 ((y.toNat ^^^ c.toNat : Nat) : Int) = vB (y ^^^ c) := by rw [vB, UInt8.toNat_xor]
        rw [e, ← List.map_set] at h
        rw [e]
        exact h
      have BX : Below w.heap.size w (wr.setCell ⟨g4, k1, none⟩ (.int .u8 ((y.toNat ^^^ c.toNat : Nat) : Int))) := M.2.setCell (p := ⟨g4, k1, none⟩) (by show w.heap.size ≤ g4; omega) _
      obtain ⟨X, hX⟩ : ∃ X, X0.set k1 (y ^^^ c) = X := ⟨_, rfl⟩
      have hXl : X0.length = X.length := by rw [← hX, List.length_set]
      rw [hX, hXl] at OX
      rw [hXl]
      have HX := Lib.hid hX
      generalize hgw : wr.setCell ⟨g4, k1, none⟩ (.int .u8 ((y.toNat ^^^ c.toNat : Nat) : Int)) = wx at OX BX ⊢
      clear hgw hst hcx hfx O M hX
      have HXL := Lib.hid hXl
      have hXl2 : 60 ≤ X.length ∧ X.length ≤ 660 := by omega
      clear hal hXl hk1i
      have RX := Rv.of_own OX
      go_loopw [14, 15, 16] (fun lv ev tv wt => ∃ (t : Nat) (vs : List (Value × List MV)), tv = .int .i64 (t : Int) ∧ t ≤ 3 ∧ vs.length = t ∧ OSt wx.heap.size wt lv ev vs t (feedP X).1 (feedP X).2.2 ∧ Below wx.heap.size wx wt) (fun _ _ tv _ => 3 - (intOf tv).toNat)
      case atStart => exact ⟨0, [], by first | rfl | trivial, by omega, rfl, OSt.start _ _ _ _, Below.refl _ _⟩
      case round =>
        rename World => wt
        obtain ⟨t, vs, rfl, ht, hvs, OS, BT⟩ := hrel
        have HVS := Lib.hid hvs
        clear hvs
        by_cases ht3 : t < 3
        · have ht3i : (t : Int) < 3 := by omega
          go_wp2_with fail
          refine (newReader_any wt).mono ?_
          rintro e w1 ⟨rfl, P1, B1, hsz1⟩
          clear hsz1
          go_wp2_with fail
          go_loopw [18, 19, 20, 21] (fun gv ev2 rv iv W => ∃ (i p : Nat) (held : List UInt8) (hv : Value) (err : Int) (G : List MV) (A : Option Addr) (C : Nat), iv = .int .i64 (i : Int) ∧ i ≤ 20 + p ∧ ev2 = .int .i64 err ∧ p ≤ X.length ∧ rv = .slice A (X.length - p) C ∧ Rv wt (.slice A (X.length - p) C) (X.length - p) ((X.drop p).map vB) ∧
              Fs wt.heap.size wt W hv gv held err G (X.take p))
            (fun _ _ rv iv _ => sliceLen rv + (20 - (intOf iv).toNat))
          case atStart =>
            refine ⟨0, 0, [], .slice none 0 0, 0, [], some ⟨g4, 0, none⟩, kX, by first | rfl | trivial, by omega, by first | rfl | trivial, Nat.zero_le _, rfl, ?_, Fs.start P1 B1⟩
            simpa using RX.below BT
          case round =>
            rename World => W
            obtain ⟨i, p, held, hv, err, G, A, C, rfl, hi, rfl, hp, rfl, RR, F⟩ := hrel
            by_cases hpX : p < X.length
            · obtain ⟨r, hr⟩ : ∃ r, X.length - p = r := ⟨_, rfl⟩
              rw [hr] at RR ⊢
              have HRl := Lib.hid hr
              have hrb : r ≤ 660 := by omega
              have hr0 : 0 < r := by omega
              have hri : (0 : Int) < (r : Int) := by omega
              clear hr
              go_upto_if 77 with fail
              go_cut [22] from 69 to 114 (fun nv wy => ∃ n : Nat, nv = .int .i64 (n : Int) ∧ 0 < n ∧ n ≤ r ∧ wy = W)
              case first =>
                by_cases h1 : t = 1
                · subst h1
                  go_wp2_with fail
                  go_meet
                  exact ⟨1, rfl, by omega, by omega, rfl⟩
                · have h1j : ¬ (t : Int) = 1 := by omega
                  have h1i : ((t : Int) == 1) = false := by simpa using h1j
                  go_wp2_with fail
                  go_meet
                  exact ⟨r, rfl, by omega, by omega, rfl⟩
              case rest =>
              obtain ⟨n, rfl, hn0, hnr, rfl⟩ := hcut
              rename World => W
              go_upto_region 30 with fail
              go_cut [89] from 69 to 114 (fun bv wy => bv = .bool (decide (t = 2 ∧ i < cs.length ∧ i < 20)) ∧ wy = W)
              case first =>
                by_cases h2 : t = 2
                · subst h2
                  by_cases h3 : i < cs.length
                  · have h3i : (i : Int) < (cs.length : Int) := by omega
                    by_cases h4 : i < 20
                    · have h4i : (i : Int) < 20 := by omega
                      go_wp2_with fail
                      go_meet
                      exact ⟨by simp [h3, h4], rfl⟩
                    · have h4i : ¬ (i : Int) < 20 := by omega
                      go_wp2_with fail
                      go_meet
                      exact ⟨by simp [h4], rfl⟩
                  · have h3i : ¬ (i : Int) < (cs.length : Int) := by omega
                    go_wp2_with fail
                    go_meet
                    exact ⟨by simp [h3], rfl⟩
                · have h2j : ¬ (t : Int) = 2 := by omega
                  have h2i : ((t : Int) == 2) = false := by simpa using h2j
                  go_wp2_with fail
                  go_meet
                  exact ⟨by simp [h2], rfl⟩
              case rest =>
              obtain ⟨rfl, rfl⟩ := hcut
              rename World => W
              go_upto_if 89 with fail
              go_cut [22] from 69 to 114 (fun nv wy => ∃ n : Nat, nv = .int .i64 (n : Int) ∧ (0 < n ∨ i < 20) ∧ n ≤ r ∧ wy = W)
              case first =>
                by_cases hq : t = 2 ∧ i < cs.length ∧ i < 20
                · rw [decide_eq_true hq]
                  have h3 := hq.2.1
                  have h4 := hq.2.2
                  clear hq
                  have hx64 := hcs cs[i] (List.getElem_mem h3)
                  obtain ⟨gc, oc, hac, hcell⟩ := (((hcu.below BX).below BT).below F.bel).rd.cell (show (cs.map (Value.int .i64))[i]? = some (.int .i64 cs[i]) by rw [List.getElem?_map, List.getElem?_eq_getElem h3]; rfl)
                  subst hac
                  have h3i : (i : Int) < (cs.length : Int) := by omega
                  generalize cs[i] = x at *
                  go_wp2_with fail
                  rw [show ((r : Int) + 1) = ((r + 1 : Nat) : Int) from by omega]
                  refine (around_nat x (r + 1) (by omega) hx64.1 hx64.2 (by omega) _).mono ?_
                  rintro e w5 ⟨n', hn', _, rfl, rfl⟩
                  go_wp2_with fail
                  go_meet
                  exact ⟨n', rfl, .inr h4, by omega, rfl⟩
                · rw [decide_eq_false hq]
                  go_wp2_with fail
                  go_meet
                  exact ⟨n, rfl, .inl hn0, hnr, rfl⟩
              case rest =>
              clear hn0 hnr
              obtain ⟨n, rfl, hn0, hnr, rfl⟩ := hcut
              rename World => W
              have hRl := HRl.out
              have hpn : p + n ≤ X.length := by omega
              have hFl := F.len
              rw [List.length_take, Nat.min_eq_left hp] at hFl
              have R1 : Rv W (.slice A n C) n (((X.drop p).take n).map vB) := by
                obtain ⟨_, _, e1, _, e3⟩ := (RR.below F.bel).firsts n hnr
                cases e1
                rw [List.map_take]
                exact e3 n rfl
              have R2 := rvTail RR (by simp; omega) n hnr
              obtain ⟨bs, hbs⟩ : ∃ bs, (X.drop p).take n = bs := ⟨_, rfl⟩
              have hbl : n = bs.length := by rw [← hbs, List.length_take, List.length_drop]; omega
              rw [hbs] at R1
              have HR2 := Lib.hid R2
              have htk : X.take p ++ bs = X.take (p + n) := by rw [← hbs, List.take_add]
              have HTK := Lib.hid htk
              clear R2 hRl hbs htk
              subst hbl
              have hrC : r ≤ C := by
                obtain ⟨_, _, e1, h, _⟩ := RR.opened
                cases e1
                exact h
              go_wp2_with fail
              refine (feedN_any _ hv held bs err _ W F.rd R1 (by omega)).mono ?_
              rintro e w1 ⟨x, L, hv', rfl, hL, M, R, S, AX⟩
              obtain ⟨OG, RX1, hN1⟩ := F.mid M S
              have hll : G.length + L.length ≤ 10000 := by
                have h1 := msN_len held bs err
                rw [← hL, List.length_map] at h1
                omega
              go_wp2_with (at_builtin; refine wpList_app2 _ rfl _ _ rfl Try.elM (wt.heap.size + 1) _ _ _ rfl OG _ L.length _ rfl RX1 (mvcells_len L) (ones_mv L) (by omega) hN1 ?_; intro g' w2 O2 g2 s2; refine later ?_)
              have F2 := F.fed (Nat.le_refl _) hL M R S AX O2 g2 s2
              rw [HTK.out] at F2
              clear hL M R S AX O2 g2 s2 OG RX1 F
              refine Later.in ?_
              have htl : X.length - (p + bs.length) = r - bs.length := by have := HRl.out; omega
              have hdd : (X.drop p).drop bs.length = X.drop (p + bs.length) := by rw [List.drop_drop]
              have hr2 := HR2.out
              rw [← List.map_drop, hdd] at hr2
              have HR2 := Lib.hid hr2
              have HTL := Lib.hid htl
              obtain ⟨en, hen⟩ : ∃ en, errN held bs err = en := ⟨_, rfl⟩
              have hez : en = 0 → err = 0 := fun h => errN_zero (hen.trans h)
              have HEZ := Lib.hid hez
              rw [hen] at F2 ⊢
              clear hr2 htl hdd hen hez HTK
              by_cases hCn : C = bs.length
              · by_cases he : en = 0
                · subst he
                  go_wp2_with fail
                  go_roundw
                  case rel =>
                    refine ⟨i + 1, p + bs.length, _, _, 0, _, A, 0, by go_num, by omega, ?_, hpn, ?_, ?_, F2⟩
                    · rw [HEZ.out rfl]
                    · rw [HTL.out]
                    · rw [HTL.out]; exact HR2.out _ _ _ (by rw [if_pos hCn]) rfl (by omega)
                  case measure => simp only [sliceLen, intOf]; have := HTL.out; omega
                · have hne : (en != 0) = true := by simpa using he
                  go_wp2_with fail
                  go_roundw
                  case rel =>
                    refine ⟨i + 1, p + bs.length, _, _, en, _, A, 0, by go_num, by omega, rfl, hpn, ?_, ?_, F2⟩
                    · rw [HTL.out]
                    · rw [HTL.out]; exact HR2.out _ _ _ (by rw [if_pos hCn]) rfl (by omega)
                  case measure => simp only [sliceLen, intOf]; have := HTL.out; omega
              · by_cases he : en = 0
                · subst he
                  go_wp2_with fail
                  go_roundw
                  case rel =>
                    refine ⟨i + 1, p + bs.length, _, _, 0, _, A.map (·.add bs.length), C - bs.length, by go_num, by omega, ?_, hpn, ?_, ?_, F2⟩
                    · rw [HEZ.out rfl]
                    · rw [HTL.out]
                    · rw [HTL.out]; exact HR2.out _ _ _ (by rw [if_neg hCn]) rfl (by omega)
                  case measure => simp only [sliceLen, intOf]; have := HTL.out; omega
                · have hne : (en != 0) = true := by simpa using he
                  go_wp2_with fail
                  go_roundw
                  case rel =>
                    refine ⟨i + 1, p + bs.length, _, _, en, _, A.map (·.add bs.length), C - bs.length, by go_num, by omega, rfl, hpn, ?_, ?_, F2⟩
                    · rw [HTL.out]
                    · rw [HTL.out]; exact HR2.out _ _ _ (by rw [if_neg hCn]) rfl (by omega)
                  case measure => simp only [sliceLen, intOf]; have := HTL.out; omega
            · obtain rfl : p = X.length := by omega
              have hFl := F.len
              rw [List.take_length] at F hFl
              obtain ⟨hGm, hEe⟩ := F.whole (by omega)
              have MG := F.ms
              have B2 := F.bel
              have OS2 := (OS.later B2).later ((Below.refl _ _).alloc (Nat.le_refl _) (.cells #[u18] 65))
              have hsz := BT.size
              have hsz2 := B2.size
              have hlf := fun b (hb : u18.ownBlock = some b) => MG.own.lt b hb
              have HHl := Lib.hid HVS.out
              obtain ⟨ag, kg, rfl, _, _⟩ := (Rv.of_own MG.own).opened
              go_wp2_with (at_builtin; refine wpList_app2 _ rfl _ _ rfl Try.elL wx.heap.size _ _ _ rfl OS2.ol (.slice (some ⟨W.heap.size, 0, none⟩) 1 1) 1 [_] rfl (rv_litH _ [_] _ 1 (by unfold maxLen; omega) _ (by simp)) rfl (ones1 _ rfl) (by have := HHl.out; omega) (by simp; omega) ?_; intro lv2 w2 O2 g2 s2; refine later ?_)
              refine Later.in ?_
              have OS3 := OS2.app1 ((MG.base (show wx.heap.size ≤ wt.heap.size + 1 by omega)).later ((Below.refl _ _).alloc (Nat.le_refl _) _)) hGm (fun b hb => by
                have hbt : b < wt.heap.size := by
                  rcases hb with hb | hb
                  · exact (OS.ol.lt b hb).2
                  · exact (OS.oe.lt b hb).2
                exact ⟨fun e => by have := (MG.own.lt b e).1; omega, fun x hx => ⟨fun e => by have := (MG.low x hx b (.inl e)).1; omega, fun e => by have := (MG.low x hx b (.inr e)).1; omega⟩⟩) O2 g2 s2
              have BA : Below wx.heap.size wx W := BT.trans (B2.mono hsz)
              have BB := (BA.alloc BA.size (.cells #[.slice ag G.length kg] 65)).grown g2 (by simp; omega) (fun b hb => (OS.ol.lt b hb).1)
              subst hEe
              have OS4 := OS3.later ((Below.refl _ _).alloc (Nat.le_refl _) (.cells #[.int .i64 (feedP X).2.2] 24))
              have BC := BB.alloc BB.size (.cells #[.int .i64 (feedP X).2.2] 24)
              clear OS2 OS3 O2 g2 s2 BA F MG OS B2 hGm BT
              go_wp2_with (at_builtin; refine wpList_app2 _ rfl _ _ rfl Try.elE wx.heap.size _ _ _ rfl OS4.oe (.slice (some ⟨w2.heap.size, 0, none⟩) 1 1) 1 [_] rfl (rv_litH _ [_] _ 1 (by unfold maxLen; omega) _ (by simp)) rfl (ones1 _ rfl) (by omega) BC.size ?_; intro ev2 w3 O3 g3 s3; refine later ?_)
              have OS5 := OS4.app2 O3 g3 s3
              have BD := BC.grown g3 BC.size (fun b hb => (OS4.oe.lt b hb).1)
              refine Later.in ?_
              go_wp2_with fail
              go_roundw
              case rel => exact ⟨t + 1, _, by go_num, by omega, by rw [List.length_append, HHl.out]; rfl, OS5, BD⟩
              case measure => simp [intOf]; omega
        · obtain rfl : t = 3 := by omega
          obtain ⟨gL, cL, gE, cE, rfl, rfl, hcL, hcE, hE, hL⟩ := OS.open HVS.out (k := 2) rfl
          rw [show ((3 : Nat) : Int) = (3 : Int) from rfl]
          have hM12 : (feedP X).1.length ≤ 1000 := by
            have := feedP_left2 _ X (Nat.le_refl _)
            omega
          obtain ⟨M, hM⟩ : ∃ M, (feedP X).1 = M := ⟨_, rfl⟩
          obtain ⟨E, hEE⟩ : ∃ E, (feedP X).2.2 = E := ⟨_, rfl⟩
          rw [hEE] at hE
          simp only [hM] at hL
          rw [hM] at hM12
          have HM := Lib.hid hM
          have HEE := Lib.hid hEE
          have HLJ := Lib.hid hL
          have HEJ := Lib.hid hE
          obtain ⟨n, hn⟩ : ∃ n, M.length = n := ⟨_, rfl⟩
          rw [hn] at hM12
          have HN := Lib.hid hn
          clear hM hEE hE hL OS hn
          have B0 := BX.trans (BT.mono BX.size)
          obtain ⟨a0, c0, G0, l0, hc0, MG0, hG0⟩ := HLJ.out 0 (by omega)
          have e0 := HEJ.out 0 (by omega)
          rw [HN.out] at l0 hc0 MG0
          go_wp2_with fail
          go_loopw [25] (fun jv W => ∃ j : Nat, jv = .int .i64 (j : Int) ∧ 1 ≤ j ∧ j ≤ 3 ∧ Below wt.heap.size wt W) (fun jv _ => 3 - (intOf jv).toNat)
          case atStart => exact ⟨1, by first | rfl | trivial, by omega, by omega, Below.refl _ _⟩
          case round =>
            rename World => W
            obtain ⟨j, rfl, hj1, hj3, BW⟩ := hrel
            by_cases hjl : j < 3
            · have hji : (j : Int) < 3 := by omega
              obtain ⟨aj, cj, Gj, lj, hcj, MGj, hGj⟩ := HLJ.out j (by omega)
              have ej := HEJ.out j (by omega)
              rw [HN.out] at lj hcj MGj
              have q0 := cellBelow e0 BW (World.block_lt_of_cell? wt _ e0)
              have qj := cellBelow ej BW (World.block_lt_of_cell? wt _ ej)
              have p0 := cellBelow l0 BW (World.block_lt_of_cell? wt _ l0)
              have pj := cellBelow lj BW (World.block_lt_of_cell? wt _ lj)
              have hEq : (E != E) = false := by simp
              go_wp2_with fail
              go_quiet (fail)
              go_wp2_with fail
              have BQ : Below wt.heap.size wt (W.drewN nq) := ⟨BW.os, BW.tape, BW.output, BW.size, BW.block⟩
              clear q0 qj p0 pj
              generalize W.drewN nq = WQ at BQ ⊢
              have HJ1 := Lib.hid hj1
              clear hj1
              go_loopw [26] (fun iv W => ∃ i : Nat, iv = .int .i64 (i : Int) ∧ i ≤ n ∧ Below wt.heap.size wt W) (fun iv _ => n - (intOf iv).toNat)
              case atStart => exact ⟨0, by first | rfl | trivial, by omega, BQ⟩
              case round =>
                rename World => W
                obtain ⟨i, rfl, hin, BW⟩ := hrel
                have p0 := cellBelow l0 BW (World.block_lt_of_cell? wt _ l0)
                have pj := cellBelow lj BW (World.block_lt_of_cell? wt _ lj)
                by_cases hil : i < n
                · have hii : (i : Int) < (n : Int) := by omega
                  obtain ⟨g0, xb, xf, yb, yf, mm, hm0, rfl, D0, N0⟩ := MG0.at hG0 HN.out.symm i hil
                  obtain ⟨gj, zb, zf, vb, vf, mj, hmj, rfl, Dj, Nj⟩ := MGj.at hGj HN.out.symm i hil
                  have hmm := Option.some.inj (hm0.symm.trans hmj)
                  subst hmm
                  clear hm0 hmj
                  have hMK : ∀ W' : World, Below W.heap.size W W' → (W'.cell? ⟨gL, j, none⟩ = some (.slice (some ⟨gj, 0, none⟩) n cj) ∧ W'.cell? ⟨gL, 0, none⟩ = some (.slice (some ⟨g0, 0, none⟩) n c0) ∧ W'.cell? ⟨gj, i * 6, none⟩ = some (.int .i64 mm.k) ∧ W'.cell? ⟨gj, i * 6 + 1, none⟩ = some (.int .i64 mm.c) ∧ W'.cell? ⟨gj, i * 6 + 2, none⟩ = some (.int .i64 mm.v) ∧ W'.cell? ⟨gj, i * 6 + 3, none⟩ = some (.int .i64 mm.o) ∧ W'.cell? ⟨gj, i * 6 + 4, none⟩ = some (.slice zb mm.body.length vb) ∧ W'.cell? ⟨gj, i * 6 + 5, none⟩ = some (.slice zf mm.fnd.length vf) ∧ W'.cell? ⟨g0, i * 6, none⟩ = some (.int .i64 mm.k) ∧ W'.cell? ⟨g0, i * 6 + 1, none⟩ = some (.int .i64 mm.c) ∧ W'.cell? ⟨g0, i * 6 + 2, none⟩ = some (.int .i64 mm.v) ∧ W'.cell? ⟨g0, i * 6 + 3, none⟩ = some (.int .i64 mm.o) ∧ W'.cell? ⟨g0, i * 6 + 4, none⟩ = some (.slice xb mm.body.length yb) ∧ W'.cell? ⟨g0, i * 6 + 5, none⟩ = some (.slice xf mm.fnd.length yf)) ∧ Below W.heap.size W W' := fun W' B => by
                    have Zc := (Dj.later BW).later B
                    have Xc := (D0.later BW).later B
                    have bl := bel BW B
                    exact ⟨⟨cellBelow lj bl (World.block_lt_of_cell? wt _ lj), cellBelow l0 bl (World.block_lt_of_cell? wt _ l0), Zc.k0, Zc.k1, Zc.k2, Zc.k3, Zc.k4, Zc.k5, Xc.k0, Xc.k1, Xc.k2, Xc.k3, Xc.k4, Xc.k5⟩, B⟩
                  have HMK := Lib.hid hMK
                  have NX := N0.below BW
                  have NZ := Nj.below BW
                  have hpx := fun W : World => plain_any mm xb xf yb yf W
                  have hpz := fun W : World => plain_any mm zb zf vb vf W
                  have hsm := fun (W : World) (h1 : Cells6 W mm zb zf vb vf) (h2 : Cells6 W mm xb xf yb yf) => same_refl mm zb zf xb xf vb vf yb yf W h1 h2
                  unfold msgV at hpx hpz hsm
                  have HPX := Lib.hid hpx
                  have HPZ := Lib.hid hpz
                  have HSM := Lib.hid hsm
                  have hBr := Below.refl W.heap.size W
                  clear hMK hpx hpz hsm D0 Dj N0 Nj
                  go_wp2_with fail
                  go_region_held3 (fun W' => (W'.cell? ⟨gL, j, none⟩ = some (.slice (some ⟨gj, 0, none⟩) n cj) ∧ W'.cell? ⟨gL, 0, none⟩ = some (.slice (some ⟨g0, 0, none⟩) n c0) ∧ W'.cell? ⟨gj, i * 6, none⟩ = some (.int .i64 mm.k) ∧ W'.cell? ⟨gj, i * 6 + 1, none⟩ = some (.int .i64 mm.c) ∧ W'.cell? ⟨gj, i * 6 + 2, none⟩ = some (.int .i64 mm.v) ∧ W'.cell? ⟨gj, i * 6 + 3, none⟩ = some (.int .i64 mm.o) ∧ W'.cell? ⟨gj, i * 6 + 4, none⟩ = some (.slice zb mm.body.length vb) ∧ W'.cell? ⟨gj, i * 6 + 5, none⟩ = some (.slice zf mm.fnd.length vf) ∧ W'.cell? ⟨g0, i * 6, none⟩ = some (.int .i64 mm.k) ∧ W'.cell? ⟨g0, i * 6 + 1, none⟩ = some (.int .i64 mm.c) ∧ W'.cell? ⟨g0, i * 6 + 2, none⟩ = some (.int .i64 mm.v) ∧ W'.cell? ⟨g0, i * 6 + 3, none⟩ = some (.int .i64 mm.o) ∧ W'.cell? ⟨g0, i * 6 + 4, none⟩ = some (.slice xb mm.body.length yb) ∧ W'.cell? ⟨g0, i * 6 + 5, none⟩ = some (.slice xf mm.fnd.length yf)) ∧ Below W.heap.size W W')
                    (first | exact HMK.out _ hBn | exact HMK.out _ hBr.drew)
                    (first
                      | (go_at_call_of 17 zb; have hS := (show (_ ∧ Below W.heap.size W _) by assumption).2; refine (HPZ.out _).mono ?_; rintro e u6 ⟨rfl, B6⟩; have hBn := bel hS B6)
                      | (go_at_call_of 17 xb; have hS := (show (_ ∧ Below W.heap.size W _) by assumption).2; refine (HPX.out _).mono ?_; rintro e u6 ⟨rfl, B6⟩; have hBn := bel hS B6)
                      | (go_at_call 16; have hS := (show (_ ∧ Below W.heap.size W _) by assumption).2; refine (HSM.out _ (NZ.below hS) (NX.below hS)).mono ?_; rintro e u7 ⟨rfl, B7⟩; have hBn := bel hS B7))
                  go_wp2_with fail
                  go_roundw
                  case rel => exact ⟨i + 1, by go_num, by omega, bel BW hBn⟩
                  case measure => simp [intOf]; omega
                · obtain rfl : i = n := by omega
                  go_wp2_with fail
                  go_roundw
                  case rel => exact ⟨j + 1, by go_num, by omega, by omega, BW⟩
                  case measure => simp [intOf]; omega
            · obtain rfl : j = 3 := by omega
              have q0 := cellBelow e0 BW (World.block_lt_of_cell? wt _ e0)
              have p0 := cellBelow l0 BW (World.block_lt_of_cell? wt _ l0)
              have hy := HY.out
              have hx := HX.out
              have hx0 := HX0.out
              have BXW := bel (bel BX BT) BW
              by_cases hc : c = 0
              · have hcz : (c.toNat : Int) = 0 := by rw [hc]; rfl
                have e : X = X0 := by
                  rw [← hx, hc, UInt8.xor_zero, ← hy]
                  exact List.set_getElem_self hk1
                obtain ⟨h1, h2⟩ := pieces_same l X (by rw [e]; exact hx0)
                rw [HM.out, HN.out] at h2
                rw [HEE.out] at h1
                subst h1
                subst h2
                clear hx hx0 hy e hc
                go_wp2_with fail
                refine (plives_any _).mono ?_
                rintro e w15 ⟨rfl, B15⟩
                go_wp2_with fail
                go_ret
                exact ⟨rfl, bel BXW B15⟩
              · have hcz : ¬ (c.toNat : Int) = 0 := fun e => hc (UInt8.toNat_inj.1 (by simpa using e))
                have h1 := pieces_bent l X0 hx0 k1 y c hk1 (by rw [List.getElem?_eq_getElem hk1, hy]) hc
                rw [hx, HEE.out] at h1
                have hEz : (E == 0) = false := by simpa using h1
                have hcz2 : ((c.toNat : Int) == 0) = false := by simpa using hcz
                have hcz3 : ((c.toNat : Int) != 0) = true := by simpa using hcz
                clear hx hx0 hy hc
                go_wp2_with fail
                refine (plives_any _).mono ?_
                rintro e w15 ⟨rfl, B15⟩
                go_wp2_with fail
                go_ret
                exact ⟨rfl, bel BXW B15⟩
end Go.Proofs.Ytadhghikanjkeaa
