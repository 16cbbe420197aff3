/- The law ProtoAltered. -/
import Derived.Test.YtadhghikanjkeaaPrtN
import Derived.Test.YtadhghikanjkeaaWireL
import Derived.Deep.Cut
import Derived.Deep.CutRange
namespace Go.Proofs.Ytadhghikanjkeaa
open Go.RowKit

theorem madeM_core (l : List Int) (a : Nat) : (coreP (madeM l a)).length ≤ 200 := by
  have h := madeM_small l a
  generalize madeM l a = m at *
  have l1 := zvar_len m.k
  have l2 := zvar_len m.c
  have l3 := zvar_len m.v
  have l4 := zvar_len m.o
  have l5 : (rawW m.body).length ≤ m.body.length + 10 := by have := uvar_len m.body.length; rw [rawW, List.length_append]; omega
  have l6 := zvar_len (m.fnd.length : Int)
  have l7 := foundW_len m.fnd
  have e : coreP m = zvar m.k ++ (zvar m.c ++ (zvar m.v ++ (zvar m.o ++ (rawW m.body ++ (zvar (m.fnd.length : Int) ++ foundW m.fnd))))) := rfl
  rw [e]
  simp only [List.length_append]
  omega
/-- The call returns true, and nothing that lay has changed. -/
def RetT (w : World) (en : Ending) (w' : World) : Prop := en = .returned (.bool true) ∧ Below w.heap.size w w'

theorem frame_len (l : List Int) (a : Nat) : 20 ≤ (framedP (coreP (madeM l a))).length ∧ (framedP (coreP (madeM l a))).length ≤ 220 := by
  have := madeM_core l a
  rw [framedP_len]
  omega

theorem fr_get (m : Msg) (i : Nat) (hi : i < 8) : (framedP (coreP m))[4 + i]? = some (UInt8.ofNat ((sumI lenL [((coreP m).length : Int)]).toNat / 256 ^ i)) := by
  unfold framedP
  rw [List.getElem?_append_right (by rw [lowL_len]; omega), lowL_len, Nat.add_sub_cancel_left, List.getElem?_append_left (by rw [lenH_len]; omega)]
  unfold lenH
  exact lowL_get 8 i _ hi
theorem fr_01 (m : Msg) (h : (coreP m).length ≤ 200) : (framedP (coreP m))[0]? = some (UInt8.ofNat (coreP m).length) ∧ (framedP (coreP m))[1]? = some 0 := by
  unfold framedP
  rw [List.getElem?_append_left (by rw [lowL_len]; omega), List.getElem?_append_left (by rw [lowL_len]; omega), lowL_get 4 0 _ (by omega), lowL_get 4 1 _ (by omega)]
  refine ⟨by simp, ?_⟩
  rw [Nat.pow_one, Nat.div_eq_of_lt (by omega)]
  rfl

set_option maxRecDepth 20000 in
set_option maxHeartbeats 1000000 in
theorem law_ProtoAltered (u r : Value) (l : List Int) (rs : List UInt8) (at' : Int) (c : UInt8) (cut : Int) (w : World) (hu : Rv w u l.length (l.map (Value.int .i64))) (hr : Rv w r rs.length (rs.map vB))
    (hl : I64 l) (hat : -9223372036854775808 ≤ at' ∧ at' ≤ 9223372036854775807) (hct : -9223372036854775808 ≤ cut ∧ cut ≤ 9223372036854775807) :
    Calls Try.prog 5 #[u, .int .i64 at', vB c, r, .int .i64 cut] w (RetT w) := by
  obtain ⟨al, cl, rfl, _, _⟩ := hu.opened
  obtain ⟨ar, cr, rfl, hrc, _⟩ := hr.opened
  obtain ⟨hf20, hf220⟩ := frame_len l 0
  have hval := madeM_valid l 0
  have hco := madeM_core l 0
  have hmade := made_any al cl l 0 w hu hl (by omega)
  obtain ⟨m, hm⟩ : ∃ m, madeM l 0 = m := ⟨_, rfl⟩
  rw [hm] at hf20 hf220 hval hco hmade
  have HM := Lib.hid hmade
  have HV := Lib.hid hval
  have HAT := Lib.hid hat
  have HCT := Lib.hid hct
  clear hm hmade hval hat hct
  unfold vB
  go_enter Try.func5, Try.ntmps5
  go_wp2_with fail
  refine HM.out.mono ?_
  rintro e w1 ⟨x, rfl, ⟨ab, af, cb, cf, rfl, M1, _, _⟩, B1⟩
  go_wp2_with fail
  refine (real_any m ab af cb cf w1).mono ?_
  rintro e w2 ⟨rfl, B2⟩
  have M2 := M1.below B2
  have A2 := bel B1 B2
  go_wp2_with fail
  refine (encode_any m ab af cb cf w2 M2).mono ?_
  rintro e w3 ⟨B3, hpost⟩
  rw [if_pos HV.out] at hpost
  obtain ⟨v, rfl, hown⟩ := hpost
  have A3 := bel A2 B3
  have own3 := own_base hown A2.size
  obtain ⟨ab3, cap3, rfl, hcap3, _⟩ := (Rv.of_own hown).opened
  clear hown M1 M2 A2 B1 B2 B3 HM
  obtain ⟨fr, hfr⟩ : ∃ fr, framedP (coreP m) = fr := ⟨_, rfl⟩
  rw [hfr] at own3 hf20 hf220 hcap3 ⊢
  have HFR := Lib.hid hfr
  have hfl := Lib.hid (show fr.length = (coreP m).length + 20 by rw [← hfr, framedP_len])
  clear hfr
  have hf20i : ¬ (fr.length : Int) < 20 := by omega
  have R3 := Rv.of_own own3
  obtain ⟨g, off, rfl, _⟩ := R3.rd.cell (show (fr.map vB)[0]? = some (vB fr[0]) by rw [List.getElem?_map, List.getElem?_eq_getElem (by omega)]; rfl)
  go_wp2_with fail
  refine (around_nat cut fr.length (by omega) HCT.out.1 HCT.out.2 (by omega) _).mono ?_
  rintro e w4 ⟨k, hk, _, rfl, rfl⟩
  have hki : (k : Int) ≤ (cap3 : Int) := by omega
  have hcutp : decP (fr.take k) = (Msg.zero, 0, 3) := by rw [← HFR.out]; exact decP_cut _ (by omega) k (by rw [HFR.out]; exact hk)
  have RK : Rv w3 (.slice (some ⟨g, off, none⟩) k cap3) k ((fr.take k).map vB) := by
    obtain ⟨_, _, e1, _, e2⟩ := R3.firsts k (by omega)
    cases e1
    rw [List.map_take]
    exact e2 k rfl
  have hkl : (fr.take k).length = k := by rw [List.length_take]; omega
  have HDK := Lib.hid (decode_any (some ⟨g, off, none⟩) cap3 (fr.take k) w3 (by rw [hkl]; exact RK) (by omega))
  have HKL := Lib.hid hkl
  have HCP := Lib.hid hcutp
  clear hkl hcutp
  go_wp2_with fail
  have hdk := HDK.out
  rw [HKL.out] at hdk
  unfold DePost at hdk
  rw [HCP.out] at hdk
  refine hdk.mono ?_
  rintro e w5 ⟨x, rfl, ⟨y1, y2, y3, y4, rfl, _, _, _⟩, B5⟩
  clear hdk HDK HKL HCP
  unfold msgV Msg.zero
  simp only [List.length_nil]
  have h8 : (8 : Int) ≤ (fr.length : Int) := by omega
  have hs1 : (12 : Int) ≤ (fr.length : Int) - 8 := by omega
  have hs2 : (fr.length : Int) - 8 ≤ (cap3 : Int) := by omega
  go_wp2_with fail
  obtain ⟨cn, hcn⟩ : ∃ cn, (coreP m).length = cn := ⟨_, rfl⟩
  have HFL := Lib.hid (show fr.length = cn + 20 by rw [hfl.out, hcn])
  have hcn200 : cn ≤ 200 := by omega
  obtain ⟨sn, hsn⟩ : ∃ sn, (sumI lenL [(cn : Int)]).toNat = sn := ⟨_, rfl⟩
  have hsn64 : sn < 18446744073709551616 := by rw [← hsn]; exact (sumI lenL [(cn : Int)]).isLt
  have hget : ∀ i, i < 8 → fr[4 + i]? = some (UInt8.ofNat (sn / 256 ^ i)) := by
    intro i hi
    have := fr_get m i hi
    rw [HFR.out, hcn, hsn] at this
    exact this
  have h01 := fr_01 m (by omega)
  rw [HFR.out, hcn] at h01
  have HSN := Lib.hid hsn
  have HG := Lib.hid hget
  have H01 := Lib.hid h01
  rw [show fr.length - 8 - 12 = cn from by have := HFL.out; omega]
  have hcn' := Lib.hid hcn
  clear hget h01 hsn hcn hfl hco
  have W0 := Wr.new (w5.alloc (.cells #[.int .i64 0, .int .i64 0, .int .i64 0, .int .i64 0, .slice y1 0 y3, .slice y2 0 y4] 33))
  rw [World.size_alloc] at W0
  have W1 := W0.later ((Below.refl _ _).alloc (Nat.le_refl _) (.cells #[.int .i64 (cn : Int)] 3))
  refine (hsum_any _ _ [(cn : Int)] _ (by have := Rv.one ((w5.alloc (.cells #[.int .i64 0, .int .i64 0, .int .i64 0, .int .i64 0, .slice y1 0 y3, .slice y2 0 y4] 33)).alloc (.cells #[.slice none 0 0] 53)) (.int .i64 (cn : Int)) 3; simp only [World.size_alloc] at this; exact this) (by decide) (by simp)).mono ?_
  rintro e w6 ⟨rfl, B6⟩
  have C6 : Below w3.heap.size w3 w6 := (((B5.alloc B5.size (.cells #[.int .i64 0, .int .i64 0, .int .i64 0, .int .i64 0, .slice y1 0 y3, .slice y2 0 y4] 33)).alloc (by have := B5.size; simp; omega) (.cells #[.slice none 0 0] 53)).alloc (by have := B5.size; simp; omega) (.cells #[.int .i64 (cn : Int)] 3)).trans (B6.mono (by have := B5.size; simp; omega))
  have W2 := W1.later B6
  clear W0 W1
  have hsz5 := B5.size
  clear B6 B5
  go_wp2_with fail
  rw [show (sumI [108, 101, 110, 103, 116, 104] [(cn : Int)]).toNat = sn from HSN.out]
  refine (wuint_any (w5.heap.size + 1) _ [] sn w6 W2 hsn64 (by simp)).mono ?_
  rintro e w7 ⟨v7, rfl, W7, S7⟩
  have C7 := S7.bel W2 C6 (by omega)
  rw [List.nil_append] at W7
  have hul := uvar_len sn
  clear W2 S7 C6
  go_wp2_with fail
  refine (wdone_any _ v7 (uvar sn) w7 W7 (by omega)).mono ?_
  rintro e w8 ⟨v8, rfl, M8⟩
  have C8 := bel C7 M8.2
  have RU := M8.rv
  rw [List.length_map] at RU
  clear W7 C7 M8
  go_wp2_with fail
  refine (read_any v8 (uvar sn) w8 RU (by omega)).mono ?_
  rintro e w9 ⟨b9, v9, rfl, hb9, hv9, R9, B9⟩
  have C9 := bel C8 B9
  have hsz9 := C8.size
  clear RU C8 B9 hv9
  have Rf := R3.below C9
  obtain ⟨g', off', e', hq0⟩ := Rf.rd.cell (show (fr.map vB)[0]? = some (.int .u8 (cn : Int)) by
    rw [List.getElem?_map, H01.out.1]
    simp only [Option.map_some, vB]
    rw [UInt8.toNat_ofNat', Nat.mod_eq_of_lt (by omega)])
  cases e'
  obtain ⟨g', off', e', hq1⟩ := Rf.rd.cell (show (fr.map vB)[1]? = some (.int .u8 0) by rw [List.getElem?_map, H01.out.2]; rfl)
  cases e'
  rw [Nat.add_zero] at hq0
  have hfr1 : (1 : Int) < (fr.length : Int) := by omega
  have hfr0 : 0 < fr.length := by omega
  go_wp2_with fail
  go_region_held3 (fun W' => W'.cell? ⟨g, off, none⟩ = some (.int .u8 (cn : Int)) ∧ W'.cell? ⟨g, off + 1, none⟩ = some (.int .u8 0)) (exact ⟨hq0, hq1⟩) (fail)
  have hwc : ((cn : Int) != IntKind.i64.wrap (IntKind.i64.wrap (cn : Int) + IntKind.i64.wrap (256 * IntKind.i64.wrap 0))) = false := by
    have e1 : IntKind.i64.wrap (cn : Int) = (cn : Int) := by rw [IntKind.wrap_i64]; omega
    have e2 : IntKind.i64.wrap (256 * IntKind.i64.wrap 0) = 0 := by decide
    rw [e1, e2, Int.add_zero, e1]
    simp
  go_wp2_with fail
  have hru := ruint_any b9 v9 (uvar sn) _ w9.drew (R9.later (Below.refl _ _).drew)
  have hrd := rdU_uvar sn [] hsn64
  rw [List.append_nil] at hrd
  rw [hrd] at hru
  refine hru.mono ?_
  rintro e w10 ⟨rfl, _, S10⟩
  have C10 := S10.bel C9.drew (by omega) R9.lt
  clear hru hrd R9 C9 Rf hq0 hq1 S10
  go_wp2_with fail
  go_loopw [20] (fun iv wr => ∃ i : Nat, iv = .int .i64 (i : Int) ∧ i ≤ 8 ∧ Below w3.heap.size w3 wr) (fun iv _ => 8 - (intOf iv).toNat)
  case atStart => exact ⟨0, by first | rfl | trivial, by omega, C10⟩
  case round =>
    obtain ⟨i, rfl, hi, C⟩ := hrel
    by_cases hlt : i < 8
    · obtain ⟨g', off', e', hq⟩ := (R3.below C).rd.cell (show (fr.map vB)[4 + i]? = some (.int .u8 ((sn : Int) / 2 ^ (8 * i) % 256)) by
        rw [List.getElem?_map, HG.out i hlt]
        simp only [Option.map_some, vB]
        rw [UInt8.toNat_ofNat']
        have e : (256 : Nat) ^ i = 2 ^ (8 * i) := by rw [show (256 : Nat) = 2 ^ 8 from rfl, ← Nat.pow_mul]
        rw [e]
        simp)
      cases e'
      have hi1 : (4 : Int) + (i : Int) < (fr.length : Int) := by omega
      have hi2 : (0 : Int) ≤ 4 + (i : Int) := by omega
      have hi3 : ((4 : Int) + (i : Int)).toNat = 4 + i := by omega
      have hi4 : IntKind.i64.wrap ((4 : Int) + (i : Int)) = 4 + (i : Int) := by rw [IntKind.wrap_i64]; omega
      have hi5 : IntKind.i64.wrap ((8 : Int) * (i : Int)) = 8 * (i : Int) := by rw [IntKind.wrap_i64]; omega
      have hi6 : (0 : Int) ≤ 8 * (i : Int) := by omega
      have hi7 : ((sn : Int) / 2 ^ (8 * i) % 256 != IntKind.u8.wrap ((sn : Int) / 2 ^ (8 * (i : Int)).toNat)) = false := by
        rw [show (8 * (i : Int)).toNat = 8 * i from by omega, IntKind.wrap_u8]
        simp
      go_wp2_with fail
      go_region_held3 (fun W' => W'.cell? ⟨g, off + (4 + i), none⟩ = some (.int .u8 ((sn : Int) / 2 ^ (8 * i) % 256))) (exact hq) (fail)
      go_wp2_with fail
      exact ⟨⟨i + 1, by simp, by omega, C.drew⟩, by simp [intOf]; omega⟩
    · obtain rfl : i = 8 := by omega
      clear C10
      go_wp2_with fail
      refine (around_nat at' fr.length (by omega) HAT.out.1 HAT.out.2 (by omega) _).mono ?_
      rintro e w11 ⟨k1, hk1, _, rfl, rfl⟩
      have RB := R3.below C
      have hszc := C.size
      go_wp2_with (at_builtin; refine wpList_app _ rfl _ _ rfl Try.elB wr.heap.size _ 0 _ rfl (own_empty wr _) _ fr.length _ rfl (RB.below ((Below.refl _ _).alloc (Nat.le_refl _) _)) (by simp) (ones_B _) (by omega) (by simp) ?_; intro v12 w12 O12 hg12 _; refine later ?_)
      have C12 : Below w3.heap.size w3 w12 := bel C (((Below.refl _ wr).alloc (Nat.le_refl _) _).grown hg12 (by simp) (fun g hg => by cases hg; exact Nat.le_refl _))
      rw [List.nil_append, Nat.zero_add] at O12
      clear hg12 RB
      obtain ⟨mm, hmm⟩ : ∃ mm, fr.length = mm + 1 := ⟨fr.length - 1, by omega⟩
      have O12' : w12.ownsRow wr.heap.size 5 1 v12 (mm + 1) (fr.map vB) := by rw [← hmm]; exact O12
      obtain ⟨g4, cap4, e4, hg4, hc4, hcell4, hfr4⟩ := own_open O12'
      rw [← hmm] at e4 hc4
      subst e4
      have hcx := hcell4 k1 (by omega)
      have hfx := hfr4 k1
      rw [List.getElem?_map, List.getElem?_eq_getElem hk1] at hcx
      simp only [Option.map_some, vB] at hcx
      obtain ⟨y, hy⟩ : ∃ y, fr[k1] = y := ⟨_, rfl⟩
      rw [hy] at hcx
      have hst := O12.stored k1 (vB (y ^^^ c))
      have HY := Lib.hid hy
      have HMM := Lib.hid hmm
      clear hy hmm hcell4 hfr4 O12'
      have hk1i : (k1 : Int) < (fr.length : Int) := by omega
      have hxor : bits BinOp.xor IntKind.u8 (y.toNat : Int) (c.toNat : Int) = ((y.toNat ^^^ c.toNat : Nat) : Int) := u8_xor_nat _ _ y.toNat_lt c.toNat_lt
      refine Later.in ?_
      go_upto_region 22 with fail
      have Ob : (w12.setCell ⟨g4, k1, none⟩ (.int .u8 ((y.toNat ^^^ c.toNat : Nat) : Int))).ownsRow wr.heap.size 5 1 (.slice (some ⟨g4, 0, none⟩) fr.length cap4) fr.length ((fr.set k1 (y ^^^ c)).map vB) := by
        have h := hst.1
        rw [← List.map_set] at h
        have e : Value.int .u8 ((y.toNat ^^^ c.toNat : Nat) : Int) = vB (y ^^^ c) := by rw [vB, UInt8.toNat_xor]
        rw [e]
        exact h
      have Cb : Below w3.heap.size w3 (w12.setCell ⟨g4, k1, none⟩ (.int .u8 ((y.toNat ^^^ c.toNat : Nat) : Int))) := C12.setCell (p := ⟨g4, k1, none⟩) (by show w3.heap.size ≤ g4; omega) _
      clear hst O12 C12 hcx hfx
      obtain ⟨wb, hwb⟩ : ∃ wb, w12.setCell ⟨g4, k1, none⟩ (.int .u8 ((y.toNat ^^^ c.toNat : Nat) : Int)) = wb := ⟨_, rfl⟩
      rw [hwb] at Ob Cb
      have HWB := Lib.hid hwb
      clear hwb
      go_cut [22] from 118 to 124 (fun v wx => ∃ t : List UInt8, t.length ≤ 40 ∧ wx.ownsRow wr.heap.size 5 1 v (fr.length + t.length) ((fr.set k1 (y ^^^ c) ++ t).map vB) ∧ Below w3.heap.size w3 wx)
      case first =>
        rw [HWB.out]
        have RA := (hr.below A3).below Cb
        by_cases h40 : rs.length ≤ 40
        · have h40i : (rs.length : Int) ≤ 40 := by omega
          have h40j : (rs.length : Int) ≤ (cr : Int) := by omega
          go_wp2_with (at_builtin; refine wpList_app _ rfl _ _ rfl Try.elB wr.heap.size _ fr.length _ rfl Ob _ rs.length _ rfl RA (by simp) (ones_B _) (by omega) (by have := Ob.lt g4 rfl; omega) ?_; intro v13 w13 O13 hg13 _; refine later ?_)
          have C13 := Cb.grown hg13 Cb.size (fun g hg => by cases hg; show w3.heap.size ≤ g4; omega)
          refine Later.in ?_
          go_wp2_with fail
          go_meet
          exact ⟨rs, h40, by rw [List.map_append]; exact O13, C13⟩
        · have h40i : ¬ (rs.length : Int) ≤ 40 := by omega
          have h40k : (40 : Int) < (rs.length : Int) := by omega
          have h40j : (40 : Int) ≤ (cr : Int) := by omega
          have RX : Rv wb (.slice ar 40 cr) 40 ((rs.take 40).map vB) := by
            obtain ⟨_, _, e1, _, e2⟩ := RA.firsts 40 (by omega)
            cases e1
            rw [List.map_take]
            exact e2 40 rfl
          go_wp2_with (at_builtin; refine wpList_app _ rfl _ _ rfl Try.elB wr.heap.size _ fr.length _ rfl Ob _ 40 _ rfl RX (by rw [List.length_map, List.length_take]; omega) (ones_B _) (by omega) (by have := Ob.lt g4 rfl; omega) ?_; intro v13 w13 O13 hg13 _; refine later ?_)
          have C13 := Cb.grown hg13 Cb.size (fun g hg => by cases hg; show w3.heap.size ≤ g4; omega)
          refine Later.in ?_
          go_wp2_with fail
          go_meet
          have ht : (rs.take 40).length = 40 := by rw [List.length_take]; omega
          exact ⟨rs.take 40, by omega, by rw [List.map_append, ht]; exact O13, C13⟩
      case rest =>
      obtain ⟨t, ht40, Ot, Ct⟩ := hcut
      obtain ⟨bt, hbt⟩ : ∃ bt, fr.set k1 (y ^^^ c) ++ t = bt := ⟨_, rfl⟩
      have hbl : bt.length = fr.length + t.length := by rw [← hbt, List.length_append, List.length_set]
      rw [hbt, ← hbl] at Ot
      have Rt := Rv.of_own Ot
      obtain ⟨a22, c22, rfl, _, _⟩ := Rt.opened
      have hbl600 : bt.length ≤ 100000000 := by omega
      have HBT := Lib.hid hbt
      clear hbt hbl Ob Cb
      have hde := decode_any a22 c22 bt _ Rt hbl600
      unfold DePost at hde
      by_cases hc0 : c = 0
      · have hdp : decP bt = (m, fr.length, 0) := by
          have e : fr.set k1 (y ^^^ c) = fr := by
            rw [hc0, UInt8.xor_zero, ← HY.out]
            exact List.set_getElem_self hk1
          rw [← HBT.out, e, ← HFR.out, decP_framed _ _ (by rw [hcn'.out]; omega), decC_core m HV.out, framedP_len]
        rw [hdp] at hde
        have hcz : (c.toNat : Int) = 0 := by rw [hc0]; rfl
        have HDE := Lib.hid hde
        clear hde hdp
        go_wp2_with fail
        refine HDE.out.mono ?_
        rintro e w14 ⟨x, rfl, ⟨z1, z2, z3, z4, rfl, _, _, _⟩, B14⟩
        have C14 := bel Ct B14
        clear HDE
        unfold msgV
        go_wp2_with fail
        refine (plives_any _).mono ?_
        rintro e w15 ⟨rfl, B15⟩
        go_wp2_with fail
        go_ret
        exact ⟨rfl, bel A3 ((C14.alloc C14.size _).trans (B15.mono (by have := C14.size; simp; omega)))⟩
      · have hdp : decP bt = (Msg.zero, 0, 13) := by
          rw [← HBT.out, ← HFR.out]
          refine decP_bent (coreP m) t (by rw [hcn'.out]; omega) k1 (y ^^^ c) (by rw [HFR.out]; exact hk1) (fun e => hc0 ?_)
          rw [HFR.out, List.getElem?_eq_getElem hk1, HY.out, Option.some.injEq] at e
          have h2 := congrArg (y ^^^ ·) e
          simp only [UInt8.xor_self, ← UInt8.xor_assoc, UInt8.zero_xor] at h2
          exact h2.symm
        rw [hdp] at hde
        have hcz : ¬ (c.toNat : Int) = 0 := fun e => hc0 (UInt8.toNat_inj.1 (by simpa using e))
        have HDE := Lib.hid hde
        clear hde hdp
        go_wp2_with fail
        refine HDE.out.mono ?_
        rintro e w14 ⟨x, rfl, ⟨z1, z2, z3, z4, rfl, _, _, _⟩, B14⟩
        have C14 := bel Ct B14
        clear HDE
        unfold msgV Msg.zero
        simp only [List.length_nil]
        go_wp2_with fail
        refine (plives_any _).mono ?_
        rintro e w15 ⟨rfl, B15⟩
        go_wp2_with fail
        go_ret
        exact ⟨rfl, bel A3 ((C14.alloc C14.size _).trans (B15.mono (by have := C14.size; simp; omega)))⟩
end Go.Proofs.Ytadhghikanjkeaa
