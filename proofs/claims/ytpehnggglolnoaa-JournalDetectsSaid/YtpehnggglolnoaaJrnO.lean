/- The law JournalDetects. -/
import Derived.Test.YtpehnggglolnoaaJrnN
import Derived.Test.YtpehnggglolnoaaJrnG
namespace Go.Proofs.Ytpehnggglolnoaa
open Go.RowKit

theorem scan_set {own : List UInt8} (hl : own.length ≤ 1000) (i : Nat) (y : UInt8) (hi : (uvar (coreM 0 own).length).length ≤ i) (hi2 : i < (frameM 0 own).length) (hy : (frameM 0 own)[i]? ≠ some y) : scanL ((frameM 0 own).set i y) = ([], 0) := by
  have hd := detect hl i y hi hi2 hy
  rw [scanL]
  cases ((frameM 0 own).set i y).length with
  | zero => rfl
  | succ f =>
    have e : firstJ ((0 : Nat) : Int) ((frameM 0 own).set i y) = none := hd
    rw [scanJ, e]
theorem scan_one (own : List UInt8) (hl : (frameM 0 own).length ≤ 1000) : scanL (frameM 0 own) = ([own], (frameM 0 own).length) := by
  have h := scanJ_frames [own] 0 [] (frameM 0 own).length (by simp [framesM]) (by simp) (by omega)
  have e : framesM 0 [own] = frameM 0 own := by rw [framesM, framesM, List.append_nil]; rfl
  rw [e, List.append_nil] at h
  rw [scanL, h]
  have h2 : scanJ ([] : List UInt8).length (0 + [own].length) [] = ([], 0) := rfl
  rw [h2]
  simp
theorem frame_parts (own : List UInt8) : frameM 0 own = rawW (coreM 0 own) ++ uvar (bytesB frameL (coreM 0 own)).toNat := by rw [frameM]
theorem frame_bounds (own : List UInt8) (hl : own.length ≤ 200) : (coreM 0 own).length ≤ 220 ∧ (uvar (coreM 0 own).length).length < (frameM 0 own).length ∧ (frameM 0 own).length ≤ 300 := by
  have h1 : (zvar 0).length ≤ 10 := uvar_len _
  have h2 := uvar_len own.length
  have h3 := uvar_len (coreM 0 own).length
  have h4 := uvar_len (bytesB frameL (coreM 0 own)).toNat
  have h5 := uvar_pos (bytesB frameL (coreM 0 own)).toNat
  have e : (coreM 0 own).length = (zvar 0).length + ((uvar own.length).length + own.length) := by rw [coreM, rawW]; simp only [List.length_append]
  rw [frame_parts, rawW]
  simp only [List.length_append]
  omega

set_option maxRecDepth 20000 in
set_option maxHeartbeats 2000000 in
theorem law_JournalDetects (b : Value) (bs : List UInt8) (bit : Int) (w : World) (hb : Rv w b bs.length (bs.map vB)) (hn : -9223372036854775808 ≤ bit ∧ bit ≤ 9223372036854775807) :
    Calls Try.prog 6 #[b, .int .i64 bit] w (RetT w) := by
  have HN := Lib.hid hn
  clear hn
  go_enter Try.func6, Try.ntmps6
  go_wp2_with fail
  refine (few_some b bs 200 (by omega) _ hb).mono ?_
  rintro e w1 ⟨v1, own, _, ho, rfl, M1, R1⟩
  have B1 := M1.2
  obtain ⟨a1, c1, e1, _, _⟩ := R1.opened
  subst e1
  clear M1
  have hfb := frame_bounds own ho
  have hso := scan_one own (by omega)
  have hss := scan_set (own := own) (by omega)
  have hpt := frame_parts own
  have hcm : zvar 0 ++ rawW own = coreM 0 own := rfl
  have hzl : (zvar 0).length ≤ 10 := uvar_len _
  go_wp2_with fail
  refine (frame_any _ own 0 _ R1 (by omega) (by omega)).mono ?_
  rintro e w2 ⟨v2, rfl, M2⟩
  have B2 := bel B1 M2.2
  have R2 := R1.below M2.2
  have O2 := own_base M2.1 B1.size
  rw [List.length_map] at O2
  clear M2 R1 B1
  have hF := fun v w1 h => hashF_any v (coreM 0 own) w1 h (by omega) _ rfl
  generalize bytesB frameL (coreM 0 own) = x at *
  generalize coreM 0 own = C at *
  generalize frameM 0 own = F at *
  obtain ⟨hcl, hA1, hFl⟩ := hfb
  have HX : x.toNat < 18446744073709551616 := x.isLt
  have HF := Lib.hid hF
  have HSO := Lib.hid hso
  have HSS := Lib.hid hss
  have HPT := Lib.hid hpt
  have HCM := Lib.hid hcm
  clear hF hso hss hpt hcm
  obtain ⟨k2, a2, c2, rfl⟩ := own_shape O2
  obtain rfl : k2 = F.length := own_k O2
  have C0 := (Below.refl _ w2).alloc (Nat.le_refl _) (.cells #[.slice none 0 0] 70)
  go_wp2_with fail
  refine (wint_any _ _ _ 0 _ (Wr.new w2) (by omega) (by omega) (by decide)).mono ?_
  rintro e w3 ⟨v3, rfl, W3, S3⟩
  have C3 := S3.bel (Wr.new w2) C0 (Nat.le_refl _)
  rw [List.nil_append] at W3
  clear S3 C0
  go_wp2_with fail
  refine (wraw_any _ _ _ _ own _ W3 (R2.below C3) (fun w' v' S => R2.below (S.bel W3 C3 (Nat.le_refl _))) (by omega)).mono ?_
  rintro e w4 ⟨v4, rfl, W4, S4⟩
  have C4 := S4.bel W3 C3 (Nat.le_refl _)
  rw [HCM.out] at W4
  clear S4 W3 C3
  go_wp2_with fail
  refine (wdone_any _ _ _ _ W4 (by omega)).mono ?_
  rintro e w5 ⟨v5, rfl, M5⟩
  have C5 := bel C4 M5.2
  have Q5 := M5.rv
  have hlow5 := M5.low
  have hs5 := C5.size
  rw [List.length_map] at Q5
  obtain ⟨a5, c5, rfl, _, _⟩ := Q5.opened
  have O5 := own_below O2 C5
  have B5 := bel B2 C5
  clear M5 C4 W4 C5 O2 R2 B2 hs5
  have D0 := (Below.refl _ w5).alloc (Nat.le_refl _) (.cells #[.slice none 0 0] 70)
  go_wp2_with fail
  refine (wuint_any _ _ _ C.length _ (Wr.new w5) (by omega) (by decide)).mono ?_
  rintro e w6 ⟨v6, rfl, W6, S6⟩
  have D6 := S6.bel (Wr.new w5) D0 (Nat.le_refl _)
  rw [List.nil_append] at W6
  clear S6 D0
  have hA10 := uvar_len C.length
  generalize hA : uvar C.length = ua at *
  go_wp2_with fail
  refine (wdone_any _ _ _ _ W6 (by omega)).mono ?_
  rintro e w7 ⟨v7, rfl, M7⟩
  have D7 := bel D6 M7.2
  have W7 := W6.later M7.2
  have Q7 := M7.rv
  rw [List.length_map] at Q7
  obtain ⟨a7, c7, rfl, _, _⟩ := Q7.opened
  have R7 := Q5.below D7
  clear M7 D6 W6 Q7
  go_wp2_with fail
  refine (wraw_any _ _ _ _ C _ W7 R7 (fun w' v' S => Q5.below (S.bel W7 D7 (Nat.le_refl _))) (by omega)).mono ?_
  rintro e w8 ⟨v8, rfl, W8, S8⟩
  have D8 := S8.bel W7 D7 (Nat.le_refl _)
  have R8 := Q5.below D8
  have O8 := own_below O5 D8
  have B8 := bel B5 D8
  have hz8 := D8.size
  clear S8 W7 W8 D7 R7 Q5 O5 B5 D8
  have hle : decide ((F.length : Int) ≤ (ua.length : Int)) = false := decide_eq_false (by omega)
  go_wp2_with fail
  have har := around_any bit (8 * ((F.length : Int) - (ua.length : Int))) (by omega) HN.out.1 HN.out.2 (by omega) w8
  obtain ⟨k, hk, hkl⟩ : ∃ k : Nat, around bit (8 * ((F.length : Int) - (ua.length : Int))) = (k : Int) ∧ k < 8 * (F.length - ua.length) := by
    have h1 := around_lo bit (8 * ((F.length : Int) - (ua.length : Int))) (by omega)
    have h2 := around_hi bit (8 * ((F.length : Int) - (ua.length : Int))) (by omega)
    exact ⟨(around bit (8 * ((F.length : Int) - (ua.length : Int)))).toNat, by omega, by omega⟩
  rw [hk] at har
  clear hk
  refine har.mono ?_
  rintro e w' ⟨rfl, rfl⟩
  clear har
  have P8 := Rv.of_own O8
  go_wp2_with fail
  refine (few_any _ F F.length (by omega) _ P8).mono ?_
  rintro e w9 ⟨v9, rfl, M9⟩
  rw [List.take_of_length_le (Nat.le_refl _)] at M9
  have O9 := M9.1
  have C9 := M9.2
  rw [List.length_map] at O9
  clear M9 O8
  obtain ⟨k9, a9, c9, rfl⟩ := own_shape O9
  obtain rfl : k9 = F.length := own_k O9
  have hi : ua.length + k / 8 < F.length := by omega
  obtain ⟨y, hy1, hy2⟩ : ∃ y : UInt8, bits BinOp.xor IntKind.u8 ((F[ua.length + k / 8]).toNat : Int) ((2 : Int) ^ (k % 8) % 256) = (y.toNat : Int) ∧ y ≠ F[ua.length + k / 8] := by
    refine ⟨F[ua.length + k / 8] ^^^ UInt8.ofNat (2 ^ (k % 8)), ?_, xor_ne _ _ ?_⟩
    · rw [← xor_u8, UInt8.toNat_ofNat', Int.natCast_emod, Int.natCast_pow]; rfl
    · have h8 : k % 8 = 0 ∨ k % 8 = 1 ∨ k % 8 = 2 ∨ k % 8 = 3 ∨ k % 8 = 4 ∨ k % 8 = 5 ∨ k % 8 = 6 ∨ k % 8 = 7 := by omega
      rcases h8 with h | h | h | h | h | h | h | h <;> rw [h] <;> decide
  obtain ⟨g9, cap9, e9, hcap9, _, hf9, hst9, hg9⟩ := own_store O9 (ua.length + k / 8) hi (.int .u8 (y.toNat : Int))
  cases e9
  have hge : w8.heap.size ≤ g9 := (O9.lt g9 rfl).1
  have hc9 : w9.cell? ⟨g9, ua.length + k / 8, none⟩ = some (vB F[ua.length + k / 8]) := by
    have := O9.cellAt (j := ua.length + k / 8) (by omega)
    rw [this, List.getElem?_map, List.getElem?_eq_getElem hi]
    rfl
  have hne : F[ua.length + k / 8]? ≠ some y := by
    rw [List.getElem?_eq_getElem hi]
    exact fun e => hy2 (Option.some.inj e).symm
  have hsc := HSS.out (ua.length + k / 8) y (by omega) hi hne
  have hbe := C9.setCell (p := ⟨g9, ua.length + k / 8, none⟩) hge (.int .u8 (y.toNat : Int))
  have hRS : Rv (w9.setCell ⟨g9, ua.length + k / 8, none⟩ (.int .u8 (y.toNat : Int))) (.slice (some ⟨g9, 0, none⟩) F.length c9) (F.set (ua.length + k / 8) y).length ((F.set (ua.length + k / 8) y).map vB) := by
    have := Rv.of_own hst9
    rw [List.length_set, List.map_set]
    exact this
  have P9 := P8.below hbe
  have R9 := R8.below hbe
  have B9 := bel B8 hbe
  have hsl : (F.set (ua.length + k / 8) y).length ≤ 300 := by rw [List.length_set]; exact hFl
  unfold vB at hc9
  have hiI : (ua.length : Int) + (k : Int) / 8 < (F.length : Int) := by omega
  have hS1 : ∀ w1, Rv w1 (.slice (some ⟨g9, 0, none⟩) F.length c9) (F.set (ua.length + k / 8) y).length ((F.set (ua.length + k / 8) y).map vB) → Calls Try.prog 29 #[.slice (some ⟨g9, 0, none⟩) F.length c9] w1 (fun e w' => ∃ v us, e = .returned (.tuple #[v, .int .i64 0]) ∧ LsO w' w1.heap.size v us [] ∧ Below w1.heap.size w1 w') := by
    intro w1 h
    have := scan_any _ _ w1 h (by omega)
    unfold ScanPost at this
    rw [hsc] at this
    exact this
  have HS1 := Lib.hid hS1
  have hz9 := Nat.le_trans hz8 hbe.size
  clear hS1 hsc hst9 hg9 hbe O9 P8 R8 B8 C9 hge hsl
  generalize F.set (ua.length + k / 8) y = T at *
  generalize F[ua.length + k / 8] = d at *
  clear hne hy2
  go_wp2_with fail
  refine (HS1.out _ hRS).mono ?_
  rintro e w10 ⟨v10, us10, rfl, L10, C10⟩
  have P10 := P9.below C10
  have R10 := R9.below C10
  have B10 := bel B9 C10
  obtain ⟨k10, a10, c10, rfl⟩ := own_shape L10.own
  obtain rfl : k10 = 0 := own_k L10.own
  have hz10 := Nat.le_trans hz9 C10.size
  clear hRS P9 R9 B9 C10 L10 hc9 hf9 HS1 hz9
  have hS2 : Calls Try.prog 29 #[.slice a2 F.length c2] w10 (fun e w' => ∃ v us, e = .returned (.tuple #[v, .int .i64 (F.length : Int)]) ∧ LsO w' w10.heap.size v us [own] ∧ Below w10.heap.size w10 w') := by
    have := scan_any _ F w10 P10 (by omega)
    unfold ScanPost at this
    rw [HSO.out] at this
    exact this
  go_wp2_with fail
  refine hS2.mono ?_
  rintro e w11 ⟨v11, us11, rfl, L11, C11⟩
  have P11 := P10.below C11
  have R11 := R10.below C11
  have B11 := bel B10 C11
  obtain ⟨k11, a11, c11, rfl⟩ := own_shape L11.own
  obtain rfl : k11 = 1 := own_k L11.own
  have hsz5 := Nat.le_trans hz10 C11.size
  clear hS2 P10 R10 B10 C11 L11
  go_wp2_with fail
  refine (read_any _ F _ P11 (by omega)).mono ?_
  rintro e w12 ⟨br, vr, rfl, hbr, hvr, T12, C12⟩
  have R12 := R11.below C12
  have B12 := bel B11 C12
  have hl12 := T12.lt
  have hwb : w.heap.size ≤ br := Nat.le_trans B11.size hbr
  have hlowR : Low w11.heap.size (.slice a5 C.length c5) := hlow5.mono hsz5
  clear P11 R11 C12 hvr B11
  have hr1 : rdRaw (.ok F) = (C, .ok (uvar x.toNat)) := by
    rw [HPT.out]
    exact rdRaw_rawW C _ (by omega)
  have hr2 : rdU (.ok (uvar x.toNat)) = (x.toNat, .ok []) := by
    have := rdU_uvar x.toNat [] HX
    rwa [List.append_nil] at this
  have HR1 := Lib.hid hr1
  have HR2 := Lib.hid hr2
  clear hr1 hr2
  go_wp2_with fail
  have hrr := rraw_any _ _ _ _ _ T12 (by omega)
  rw [HR1.out] at hrr
  refine hrr.mono ?_
  rintro e w13 ⟨v13, rfl, O13, T13, S13⟩
  rw [List.length_map] at O13
  have Q13 := Rv.of_own O13
  have hne13 : ∀ g, v13.ownBlock = some g → g ≠ br := fun g hg e => by
    have := (O13.lt g hg).1
    omega
  obtain ⟨a13, c13, rfl, _, _⟩ := Q13.opened
  have R13 := R12.bstep S13 (fun e => by have := hlowR br e; omega)
  have B13 := S13.bel B12 hwb hl12
  have hl13 := T13.lt
  clear T12 S13 R12 B12 O13 hrr
  go_wp2_with fail
  have hru := ruint_any _ _ _ _ _ T13
  rw [HR2.out] at hru
  refine hru.mono ?_
  rintro e w14 ⟨rfl, T14, S14⟩
  have Q14 := Q13.bstep S14 (fun e => hne13 br e rfl)
  have R14 := R13.bstep S14 (fun e => by have := hlowR br e; omega)
  have B14 := S14.bel B13 hwb hl13
  clear T13 S14 Q13 R13 B13 hru hne13
  go_wp2_with fail
  refine (rend_any _ _ _ _ _ T14).mono ?_
  rintro e w15 ⟨rfl, n15, h15⟩
  have B15 : Below w.heap.size w w15 := by rw [h15]; exact belD B14 n15
  have Q15 : Rv w15 (.slice a13 C.length c13) C.length (C.map vB) := by rw [h15]; exact Q14
  have R15 : Rv w15 (.slice a5 C.length c5) C.length (C.map vB) := by rw [h15]; exact R14
  clear h15 T14 B14 Q14 R14
  rw [show rdEnd (.ok []) = 0 from rfl]
  go_wp2_with fail
  refine (sameBytes_refl _ _ C _ Q15 R15).mono ?_
  rintro e w16 ⟨rfl, n16, h16⟩
  have B16 : Below w.heap.size w w16 := by rw [h16]; exact belD B15 n16
  have R16 : Rv w16 (.slice a5 C.length c5) C.length (C.map vB) := by rw [h16]; exact R15
  clear h16 B15 Q15 R15
  go_wp2_with fail
  refine (HF.out _ _ R16).mono ?_
  rintro e w17 ⟨rfl, C17⟩
  have B17 := bel B16 C17
  clear R16 B16 C17
  go_wp2_with fail
  refine (lives31_any w17).mono ?_
  rintro e w18 ⟨rfl, C18⟩
  go_wp2_with fail
  go_ret
  exact ⟨rfl, bel B17 C18⟩
end Go.Proofs.Ytpehnggglolnoaa
