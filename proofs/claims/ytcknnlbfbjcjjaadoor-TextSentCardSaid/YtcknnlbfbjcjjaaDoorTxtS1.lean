/- The law TextSent. -/
import Derived.Test.YtcknnlbfbjcjjaaDoorTxtR1
import Derived.Test.YtcknnlbfbjcjjaaDoorWireL
namespace Go.Proofs.YtcknnlbfbjcjjaaDoor
open Go.RowKit

theorem one_inj (m n : Nat) (hm : symB true (m : Int) = true) (hn : symB true (n : Int) = true) (h : oneM true m = oneM true n) : m = n := by
  have h1 := first_one m hm []
  have h2 := first_one n hn []
  rw [h, h2] at h1
  have := congrArg Prod.fst h1
  simp only at this
  omega
theorem sent_hash (L : List UInt8) (m n : Nat) (hm : symB true (m : Int) = true) (hn : symB true (n : Int) = true) (h1 : (oneM true m).length = 2) (h2 : (oneM true n).length = 2) (h : m ≠ n) : bytesB L (oneM true m) ≠ bytesB L (oneM true n) := by
  refine group_ne (i := 0) (by rw [h1, h2]) (fun j hj => ?_) (fun e => h (one_inj m n hm hn e))
  have hj8 : 8 ≤ j := by omega
  rw [List.getElem?_eq_none (by omega), List.getElem?_eq_none (by omega)]
theorem sent_one (k : Nat) (h1 : 128 ≤ k) (h2 : k < 2048) : symB true (k : Int) = true ∧ (oneM true k).length = 2 ∧ encM [(k : Int)] true = oneM true k := by
  refine ⟨by unfold symB; simp; omega, by rw [one1 k (by omega) h2]; rfl, ?_⟩
  show oneM true k ++ [] = _
  rw [List.append_nil]

theorem hashT_any (v : Value) (bs : List UInt8) (w : World) (hv : Rv w v 2 (bs.map vB)) (hl : bs.length = 2) (x : BitVec 64) (hx : x = bytesB [116] bs) :
    Calls Tryd.prog 44 #[.string ⟨#[116]⟩, v] w (RetU w x) := by
  have h := hbytes_any ⟨#[116]⟩ v bs w (by rw [hl]; exact hv) (show (1 : Nat) ≤ 1099511627776 by omega) (by omega)
  rw [show (⟨#[116]⟩ : ByteArray).data.toList = [116] from rfl, ← hx] at h
  exact h

set_option maxRecDepth 20000 in
set_option maxHeartbeats 8000000 in
theorem law_TextSent (u : Value) (l : List Int) (s t : Int) (w : World) (hu : Rv w u l.length (l.map (Value.int .i64))) (hl : ∀ x ∈ l, -9223372036854775808 ≤ x ∧ x ≤ 9223372036854775807)
    (hs : -9223372036854775808 ≤ s ∧ s ≤ 9223372036854775807) (ht : -9223372036854775808 ≤ t ∧ t ≤ 9223372036854775807) (hF : FM w) :
    Calls Tryd.prog 10 #[u, .int .i64 s, .int .i64 t] w (RetTB w) := by
  have hw0 : 0 < w.heap.size := World.block_lt_of_cell? w _ (hF 0 (by omega))
  have HX := Lib.hid hl
  have HS := Lib.hid hs
  have HT := Lib.hid ht
  clear hl hs ht
  go_enter Tryd.func10, Tryd.ntmps10
  go_wp2_with fail
  refine (text_any u l 25 true w hu HX.out (by omega)).mono ?_
  rintro e w1 ⟨va, rfl, M1⟩
  have na := textM_le l 25 true
  have haa := text_all l 25 true
  generalize textM l 25 true = a at *
  have B1 := M1.2
  have RA := M1.rv
  rw [List.length_map] at RA
  clear M1
  have ex := fun w1 h1 h2 => encode_ok va a true w1 h1 (by omega) haa h2
  have ed := fun v1 w1 h1 h2 => decode_enc v1 a true w1 h1 (by omega) haa h2
  have hxl := encM_len a true
  have hai : ∀ x ∈ a, -9223372036854775808 ≤ x ∧ x ≤ 9223372036854775807 := fun x hx => by have := symB_nat (List.all_eq_true.1 haa x hx); omega
  generalize encM a true = x at *
  have hri := rdInts_intsW a (rawW x) (by omega) hai
  have hrr := rdRaw_rawW x [] (by omega)
  rw [List.append_nil] at hrr
  have hzl := zvars_len a
  have hul := uvar_len a.length
  have hux := uvar_len x.length
  have hwl : (intsW a ++ rawW x).length ≤ 1000 := by rw [intsW, rawW]; simp only [List.length_append]; omega
  have EX := Lib.hid ex
  have ED := Lib.hid ed
  have HAI := Lib.hid hai
  have HRI := Lib.hid hri
  have HRR := Lib.hid hrr
  clear ex ed haa hai hri hrr hzl hul hux
  obtain ⟨aa, ca, e1, _, _⟩ := RA.opened
  subst e1
  go_wp2_with fail
  refine (EX.out _ RA (hF.below B1 hw0)).mono ?_
  rintro e w2 ⟨v2, rfl, M2⟩
  have B2 := bel B1 M2.2
  have RA := RA.below M2.2
  have RX := M2.rv
  rw [List.length_map] at RX
  obtain ⟨ax, cx, e2, _, _⟩ := RX.opened
  subst e2
  clear M2 B1 EX
  go_wp2_with fail
  have W0 := Wr.new w2
  have A2 := (Below.refl _ w2).alloc (Nat.le_refl _) (.cells #[.slice none 0 0] 61)
  refine (wints_any _ _ _ _ a _ W0 (RA.below A2) (fun w' v' S => RA.below (S.bel W0 A2 (Nat.le_refl _))) HAI.out (by simp; omega)).mono ?_
  rintro e w3 ⟨v3, rfl, W3, S3⟩
  have C3 := S3.bel W0 A2 (Nat.le_refl _)
  rw [List.nil_append] at W3
  clear S3 W0
  go_wp2_with fail
  refine (wraw_any _ _ _ _ x _ W3 (RX.below C3) (fun w' v' S => RX.below (S.bel W3 C3 (Nat.le_refl _))) (by rw [List.length_append] at hwl; omega)).mono ?_
  rintro e w4 ⟨v4, rfl, W4, S4⟩
  have C4 := S4.bel W3 C3 (Nat.le_refl _)
  clear S4 W3 C3
  have B4 := bel B2 C4
  have RA := RA.below C4
  clear C4 B2 A2
  generalize hT : intsW a ++ rawW x = T at *
  go_wp2_with fail
  refine (wdone_any _ _ _ _ W4 (by omega)).mono ?_
  rintro e w5 ⟨d5, rfl, M5⟩
  have B5 := bel B4 M5.2
  have RA := RA.below M5.2
  have R5 := M5.rv
  rw [List.length_map] at R5
  clear M5 W4 B4
  go_wp2_with fail
  refine (read_any _ T _ R5 (by omega)).mono ?_
  rintro e w6 ⟨b, v, rfl, hb, hvb, T6, C6⟩
  have hb6 := T6.lt
  have hwb : w.heap.size ≤ b := Nat.le_trans B5.size hb
  clear R5
  go_wp2_with fail
  refine (rints_any b v T _ w6 T6 (by omega)).mono ?_
  rintro e w7 ⟨v7, rfl, O7, T7, S7⟩
  rw [HRI.out] at O7 T7
  have D7 := S7.bel C6 hb hb6
  have hb7 := T7.lt
  clear T6
  go_wp2_with fail
  refine (rraw_any b v T _ w7 T7 (by omega)).mono ?_
  rintro e w8 ⟨v8, rfl, O8, T8, S8⟩
  rw [HRR.out] at O8 T8
  have D8 := S8.bel D7 hb hb7
  have O7 := own_bstep O7 S8 hb6
  clear D7 T7 S7 S8 C6 HRI HRR
  have R8 := Rv.of_own O8
  simp only [List.length_map] at R8
  have B8 := bel B5 D8
  go_wp2_with fail
  refine (ED.out _ _ R8 (hF.below B8 hw0)).mono ?_
  rintro e w9 ⟨v9, rfl, O9, C9⟩
  have D9 := bel D8 C9
  have T9 := T8.later C9
  have R7 := (Rv.of_own O7).below C9
  simp only [List.length_map] at R7
  have R9 := Rv.of_own O9
  have RA := RA.below D9
  have B9 := bel B5 D9
  clear O7 O8 O9 T8 C9 D8 B8 R8 ED D9 B5
  have hE := rend_any b v T _ w9 T9
  have hr0 : rdEnd (.ok []) = 0 := rfl
  rw [hr0] at hE
  clear T9 hr0
  go_wp2_with fail
  refine hE.mono ?_
  rintro e w10 ⟨rfl, n10, h10⟩
  have C10 : Below w9.heap.size w9 w10 := by rw [h10]; exact belD (Below.refl _ _) _
  have B10 := bel B9 C10
  have R7 := R7.below C10
  have R9 := R9.below C10
  have RA := RA.below C10
  clear hE h10 C10 B9
  go_wp2_with fail
  refine (sameInts_refl v7 v9 a _ R7 R9).mono ?_
  rintro e w11 ⟨rfl, n11, h11⟩
  have C11 : Below w10.heap.size w10 w11 := by rw [h11]; exact belD (Below.refl _ _) _
  have B11 := bel B10 C11
  have R7 := R7.below C11
  have RA := RA.below C11
  clear h11 C11 B10 R9
  go_wp2_with fail
  refine (sameInts_refl v7 _ a _ R7 RA).mono ?_
  rintro e w12 ⟨rfl, n12, h12⟩
  have B12 : Below w.heap.size w w12 := by rw [h12]; exact belD B11 _
  clear h12 B11 R7 RA
  go_wp2_with fail
  refine (around_nat s 1920 (by omega) HS.out.1 HS.out.2 (by omega) _).mono ?_
  rintro e w' ⟨q, hq, _, rfl, rfl⟩
  obtain ⟨k, hk⟩ : ∃ k : Nat, k = 128 + q := ⟨_, rfl⟩
  have hkq : (128 : Int) + (q : Int) = (k : Int) := by omega
  have hk1 : 128 ≤ k ∧ k < 2048 := by omega
  clear hk hq
  go_wp2_with fail
  refine (around_nat t 1920 (by omega) HT.out.1 HT.out.2 (by omega) _).mono ?_
  rintro e w' ⟨q', hq', _, rfl, rfl⟩
  obtain ⟨j, hj⟩ : ∃ j : Nat, j = 128 + q' := ⟨_, rfl⟩
  have hjq : (128 : Int) + (q' : Int) = (j : Int) := by omega
  have hj1 : 128 ≤ j ∧ j < 2048 := by omega
  clear hj hq'
  obtain ⟨sk1, sk2, sk3⟩ := sent_one k hk1.1 hk1.2
  obtain ⟨sj1, sj2, sj3⟩ := sent_one j hj1.1 hj1.2
  have ek := fun v1 w1 h1 h2 => encode_ok v1 [(k : Int)] true w1 h1 (by simp) (by rw [List.all_cons, sk1]; rfl) h2
  have ej := fun v1 w1 h1 h2 => encode_ok v1 [(j : Int)] true w1 h1 (by simp) (by rw [List.all_cons, sj1]; rfl) h2
  rw [sk3] at ek
  rw [sj3] at ej
  have hne : k ≠ j → bytesB [116] (oneM true k) ≠ bytesB [116] (oneM true j) := sent_hash [116] k j sk1 sj1 sk2 sj2
  have hee : k = j → oneM true k = oneM true j := fun h => by rw [h]
  generalize oneM true k = ck at *
  generalize oneM true j = cj at *
  have EK := Lib.hid ek
  have EJ := Lib.hid ej
  have HNE := Lib.hid hne
  have HEE := Lib.hid hee
  clear ek ej hne hee sk1 sj1 sk3 sj3
  go_wp2_with fail
  have A13 := B12.alloc B12.size (.cells #[.int .i64 (k : Int)] 3)
  refine (EK.out _ _ (Rv.lit w12 [.int .i64 (k : Int)] 3 1 (by unfold maxLen; omega)) (hF.below A13 hw0)).mono ?_
  rintro e w13 ⟨v13, rfl, M13⟩
  have B13 := bel A13 M13.2
  have RK := M13.rv
  rw [List.length_map, sk2] at RK
  clear A13 B12 M13 EK
  obtain ⟨ak, ckk, e13, _, _⟩ := RK.opened
  subst e13
  go_wp2_with fail
  have A14 := B13.alloc B13.size (.cells #[.int .i64 (j : Int)] 3)
  refine (EJ.out _ _ (Rv.lit w13 [.int .i64 (j : Int)] 3 1 (by unfold maxLen; omega)) (hF.below A14 hw0)).mono ?_
  rintro e w14 ⟨v14, rfl, M14⟩
  have B14 := bel A14 M14.2
  have RK := (RK.below ((Below.refl _ w13).alloc (Nat.le_refl _) _)).below M14.2
  have RJ := M14.rv
  rw [List.length_map, sj2] at RJ
  clear A14 B13 M14 EJ
  obtain ⟨aj, cjj, e14, _, _⟩ := RJ.opened
  subst e14
  have L2 := Lib.hid sk2
  have L3 := Lib.hid sj2
  clear sk2 sj2 hk1 hj1
  by_cases hkj : k = j
  · have hcc := HEE.out hkj
    subst hkj
    subst hcc
    have HKQ := Lib.hid hkq
    have HJQ := Lib.hid hjq
    clear hkq hjq
    have h1 := fun w1 h => hashT_any (.slice ak 2 ckk) ck w1 h L2.out _ rfl
    have h2 := fun w1 h => hashT_any (.slice aj 2 cjj) ck w1 h L2.out _ rfl
    generalize bytesB [116] ck = x1 at *
    have H1 := Lib.hid h1
    have H2 := Lib.hid h2
    clear h1 h2
    go_wp2_with fail
    refine (H1.out _ RK).mono ?_
    rintro e w15 ⟨rfl, C15⟩
    have B15 := bel B14 C15
    have RJ := RJ.below C15
    clear C15 B14 RK
    go_wp2_with fail
    refine (H2.out _ RJ).mono ?_
    rintro e w16 ⟨rfl, C16⟩
    have B16 := bel B15 C16
    clear C16 B15 RJ
    go_wp2_with fail
    refine (lives4_any _ (hF.below B16 hw0)).mono ?_
    rintro e w17 ⟨rfl, C17⟩
    go_wp2_with fail
    go_ret
    exact ⟨rfl, bel B16 C17⟩
  · have hh := toNat_ne (HNE.out hkj)
    have hki : ((k : Int) == (j : Int)) = false := beq_eq_false_iff_ne.2 (by omega)
    have HKQ := Lib.hid hkq
    have HJQ := Lib.hid hjq
    have HKJ := Lib.hid hkj
    clear hkq hjq hkj
    have h1 := fun w1 h => hashT_any (.slice ak 2 ckk) ck w1 h L2.out _ rfl
    have h2 := fun w1 h => hashT_any (.slice aj 2 cjj) cj w1 h L3.out _ rfl
    generalize bytesB [116] ck = x1 at *
    generalize bytesB [116] cj = x2 at *
    have H1 := Lib.hid h1
    have H2 := Lib.hid h2
    clear h1 h2 HNE
    go_wp2_with fail
    refine (H1.out _ RK).mono ?_
    rintro e w15 ⟨rfl, C15⟩
    have B15 := bel B14 C15
    have RJ := RJ.below C15
    clear C15 B14 RK
    go_wp2_with fail
    refine (H2.out _ RJ).mono ?_
    rintro e w16 ⟨rfl, C16⟩
    have B16 := bel B15 C16
    clear C16 B15 RJ
    go_wp2_with fail
    refine (lives4_any _ (hF.below B16 hw0)).mono ?_
    rintro e w17 ⟨rfl, C17⟩
    go_wp2_with fail
    go_ret
    exact ⟨rfl, bel B16 C17⟩
end Go.Proofs.YtcknnlbfbjcjjaaDoor
