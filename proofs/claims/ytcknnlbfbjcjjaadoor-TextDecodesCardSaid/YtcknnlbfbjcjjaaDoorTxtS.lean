/- The law package's examples hold. -/
import Derived.Test.YtcknnlbfbjcjjaaDoorTxtR
import Derived.Test.YtcknnlbfbjcjjaaDoorTxtJ
namespace Go.Proofs.YtcknnlbfbjcjjaaDoor
open Go.RowKit

theorem ld1 : decM true [195, 164, 97] = [228, 97] := by decide +kernel
theorem ld2 : decM true [192, 128] = [-1] := by decide +kernel
theorem ld3 : decM true [237, 160, 128] = [-1] := by decide +kernel
theorem le1 : decE [228, 97] = 0 := by decide +kernel
theorem le2 : decE [-1] = 9 := by decide +kernel
theorem ll1 : decL [228, 97] = [228, 97] := by decide +kernel
theorem ll2 : decL [-1] = [] := by decide +kernel
theorem lc1 : chkE 3 ⟨1, 1, [7, 8]⟩ = 0 := by decide +kernel
theorem ls1 : splR [1, 2, 3] ⟨1, 1, [7, 8]⟩ = [1, 7, 8, 3] := by decide +kernel
theorem lu1 : undR [1, 2, 3] ⟨1, 1, [7, 8]⟩ = ⟨1, 2, [2]⟩ := by rw [undR, if_pos (show chkE ([1, 2, 3] : List Int).length ⟨1, 1, [7, 8]⟩ = 0 from lc1)]; rfl
theorem la1 : ∀ k : Nat, k < 4 → assP 4 [97, 32, 98] (k : Int) = true := by decide +kernel

set_option maxRecDepth 20000 in
set_option maxHeartbeats 4000000 in
theorem lives4_any (w : World) (hF : FM w) : Calls Tryd.prog 18 #[] w (RetTB w) := by
  have hw0 : 0 < w.heap.size := World.block_lt_of_cell? w _ (hF 0 (by omega))
  have hd1 := fun w1 v (h : Rv w1 v ([195, 164, 97] : List UInt8).length (([195, 164, 97] : List UInt8).map vB)) (hf : FM w1) => decode_any v [195, 164, 97] true w1 h (by decide) hf
  have hd2 := fun w1 v (h : Rv w1 v ([192, 128] : List UInt8).length (([192, 128] : List UInt8).map vB)) (hf : FM w1) => decode_any v [192, 128] true w1 h (by decide) hf
  have hd3 := fun w1 v (h : Rv w1 v ([237, 160, 128] : List UInt8).length (([237, 160, 128] : List UInt8).map vB)) (hf : FM w1) => decode_any v [237, 160, 128] true w1 h (by decide) hf
  have hs1 := fun w1 v iv h1 h2 => splice_any v [1, 2, 3] ⟨1, 1, [7, 8]⟩ iv w1 h1 h2 (by decide) (by decide) (by decide) (by decide)
  have hu1 := fun w1 v iv h1 h2 => undo_any v [1, 2, 3] ⟨1, 1, [7, 8]⟩ iv w1 h1 h2 (by decide) (by decide) (by decide) (by decide)
  rw [ld1, le1, ll1] at hd1
  rw [ld2, le2, ll2] at hd2
  rw [ld3, le2, ll2] at hd3
  simp only [List.length_cons, List.length_nil, Nat.reduceAdd, lc1, ls1, lu1] at hd1 hd2 hd3 hs1 hu1
  have HD1 := Lib.hid hd1
  have HD2 := Lib.hid hd2
  have HD3 := Lib.hid hd3
  have HS1 := Lib.hid hs1
  have HU1 := Lib.hid hu1
  clear hd1 hd2 hd3 hs1 hu1
  go_enter Tryd.func18, Tryd.ntmps18
  go_wp2_with fail
  have A1 := (Below.refl _ w).alloc (Nat.le_refl _) (.cells #[.int .u8 195, .int .u8 164, .int .u8 97] 5)
  refine (HD1.out _ _ (Rv.lit w [.int .u8 195, .int .u8 164, .int .u8 97] 5 3 (by unfold maxLen; omega)) (hF.below A1 hw0)).mono ?_
  rintro e w1 ⟨v1, rfl, O1, C1⟩
  have B1 := bel A1 C1
  clear A1 C1
  go_wp2_with fail
  have A2 := B1.alloc B1.size (.cells #[.int .u8 192, .int .u8 128] 5)
  refine (HD2.out _ _ (Rv.lit w1 [.int .u8 192, .int .u8 128] 5 2 (by unfold maxLen; omega)) (hF.below A2 hw0)).mono ?_
  rintro e w2 ⟨v2, rfl, _, C2⟩
  have B2 := bel A2 C2
  have R1 : Rv w2 v1 2 [.int .i64 228, .int .i64 97] := ((Rv.of_own O1).below ((Below.refl _ w1).alloc (Nat.le_refl _) _)).below C2
  clear A2 C2 O1
  go_wp2_with fail
  have A3 := B2.alloc B2.size (.cells #[.int .u8 237, .int .u8 160, .int .u8 128] 5)
  refine (HD3.out _ _ (Rv.lit w2 [.int .u8 237, .int .u8 160, .int .u8 128] 5 3 (by unfold maxLen; omega)) (hF.below A3 hw0)).mono ?_
  rintro e w3 ⟨v3, rfl, _, C3⟩
  have B3 := bel A3 C3
  have R1b := (R1.below ((Below.refl _ w2).alloc (Nat.le_refl _) _)).below C3
  clear A3 C3 R1
  go_wp2_with fail
  have A4 := (B3.alloc B3.size (.cells #[.int .i64 1, .int .i64 2, .int .i64 3] 3)).alloc (by have := B3.size; simp; omega) (.cells #[.int .i64 7, .int .i64 8] 3)
  have L4 := (Rv.lit w3 [.int .i64 1, .int .i64 2, .int .i64 3] 3 3 (by unfold maxLen; omega)).below ((Below.refl _ _).alloc (Nat.le_refl _) (.cells #[.int .i64 7, .int .i64 8] 3))
  have M4 := rv_litH (w3.alloc (.cells #[.int .i64 1, .int .i64 2, .int .i64 3] 3)) [.int .i64 7, .int .i64 8] 3 2 (by unfold maxLen; omega) (w3.heap.size + 1) (by simp)
  refine (HS1.out _ _ _ L4 M4).mono ?_
  rintro e w4 ⟨v4, rfl, O4⟩
  have B4 := bel A4 O4.2
  have R4 : Rv w4 v4 4 [.int .i64 1, .int .i64 7, .int .i64 8, .int .i64 3] := O4.rv
  have R1c := ((R1b.below ((Below.refl _ w3).alloc (Nat.le_refl _) _)).below ((Below.refl _ _).alloc (Nat.le_refl _) _)).below O4.2
  clear A4 O4 R1b L4 M4
  go_wp2_with fail
  have A5 := (B4.alloc B4.size (.cells #[.int .i64 1, .int .i64 2, .int .i64 3] 3)).alloc (by have := B4.size; simp; omega) (.cells #[.int .i64 7, .int .i64 8] 3)
  have L5 := (Rv.lit w4 [.int .i64 1, .int .i64 2, .int .i64 3] 3 3 (by unfold maxLen; omega)).below ((Below.refl _ _).alloc (Nat.le_refl _) (.cells #[.int .i64 7, .int .i64 8] 3))
  have M5 := rv_litH (w4.alloc (.cells #[.int .i64 1, .int .i64 2, .int .i64 3] 3)) [.int .i64 7, .int .i64 8] 3 2 (by unfold maxLen; omega) (w4.heap.size + 1) (by simp)
  refine (HU1.out _ _ _ L5 M5).mono ?_
  rintro e w5 ⟨v5, rfl, O5, C5⟩
  have B5 := bel A5 C5
  have R5 : Rv w5 v5 1 [.int .i64 2] := Rv.of_own O5
  have R1d := ((R1c.below ((Below.refl _ w4).alloc (Nat.le_refl _) _)).below ((Below.refl _ _).alloc (Nat.le_refl _) _)).below C5
  have R4d := ((R4.below ((Below.refl _ w4).alloc (Nat.le_refl _) _)).below ((Below.refl _ _).alloc (Nat.le_refl _) _)).below C5
  clear A5 C5 O5 R1c R4 L5 M5
  obtain ⟨a5, c5, rfl, _, _⟩ := R5.opened
  unfold Ed.val
  go_wp2_with fail
  have Z6 := Box3.new w5 (.int .i64 1) (.int .i64 2) (.slice a5 1 c5)
  have E6 := (Below.refl _ w5).alloc (Nat.le_refl _) (.cells #[.int .i64 1, .int .i64 2, .slice a5 1 c5] 37)
  have B6 := bel B5 E6
  have Q1 := R1d.below E6
  have Q4 := R4d.below E6
  have Q5 := R5.below E6
  clear E6 R1d R4d R5 HD1 HD2 HD3 HS1 HU1
  generalize w5.alloc (.cells #[.int .i64 1, .int .i64 2, .slice a5 1 c5] 37) = W6 at *
  generalize w5.heap.size = b6 at *
  go_loopw [11] (fun iv wr => ∃ k : Nat, iv = .int .i64 (k : Int) ∧ k ≤ 4 ∧ Below W6.heap.size W6 wr) (fun iv _ => 4 - (intOf iv).toNat)
  case atStart => exact ⟨0, rfl, by omega, Below.refl _ _⟩
  case round =>
    obtain ⟨k, rfl, hk, hB⟩ := hrel
    by_cases hlt : k < 4
    · have hass := assert_any 4 (.slice (some ⟨wr.heap.size, 0, none⟩) 3 3) [97, 32, 98] (k : Int) (wr.alloc (.cells #[.int .i64 97, .int .i64 32, .int .i64 98] 3)) (Rv.lit wr [.int .i64 97, .int .i64 32, .int .i64 98] 3 3 (by unfold maxLen; omega)) (by decide)
      rw [la1 k hlt] at hass
      have HASS := Lib.hid hass
      clear hass Q1 Q4 Q5 Z6 B6 B5 B4 B3 B2 B1
      go_wp2_with fail
      refine HASS.out.mono ?_
      rintro e w7 ⟨rfl, rfl⟩
      go_wp2_with fail
      go_roundw
      case rel => exact ⟨k + 1, by go_num, by omega, hB.alloc hB.size _⟩
      case measure => simp [intOf]; omega
    · obtain rfl : k = 4 := by omega
      have Z7 := Z6.kept (hB.block _ Z6.lt)
      have P1 := Q1.below hB
      have P4 := Q4.below hB
      have P5 := Q5.below hB
      have B7 := bel B6 hB
      have z0 := Z7.k0
      have z1 := Z7.k1
      have z2 := Z7.k2
      clear Q1 Q4 Q5 Z6 B6 hB B5 B4 B3 B2 B1
      go_wp2_with fail
      refine (sameInts_refl v1 _ [228, 97] _ (P1.below ((Below.refl _ wr).alloc (Nat.le_refl _) _)) (Rv.lit wr [.int .i64 228, .int .i64 97] 3 2 (by unfold maxLen; omega))).mono ?_
      rintro e w8 ⟨rfl, n8, h8⟩
      have C8 : Below wr.heap.size wr w8 := by rw [h8]; exact belD ((Below.refl _ wr).alloc (Nat.le_refl _) _) n8
      clear h8
      have B8 := bel B7 C8
      have Z8 := Z7.kept (C8.block _ Z7.lt)
      have P4b := P4.below C8
      have P5b := P5.below C8
      clear z0 z1 z2 Z7 P1 P4 P5 C8 B7
      go_wp2_with fail
      refine (sameInts_refl v4 _ [1, 7, 8, 3] _ (P4b.below ((Below.refl _ w8).alloc (Nat.le_refl _) _)) (Rv.lit w8 [.int .i64 1, .int .i64 7, .int .i64 8, .int .i64 3] 3 4 (by unfold maxLen; omega))).mono ?_
      rintro e w9 ⟨rfl, n9, h9⟩
      have C9 : Below w8.heap.size w8 w9 := by rw [h9]; exact belD ((Below.refl _ w8).alloc (Nat.le_refl _) _) n9
      clear h9
      have B9 := bel B8 C9
      have Z9 := Z8.kept (C9.block _ Z8.lt)
      have P5c := P5b.below C9
      have z0 := Z9.k0
      have z1 := Z9.k1
      have z2 := Z9.k2
      clear Z8 P4b P5b C9 B8
      go_wp2_with fail
      refine (sameEdit_any ⟨1, 2, [2]⟩ (.slice a5 1 c5) _ _ (P5c.below ((Below.refl _ w9).alloc (Nat.le_refl _) _)) (Rv.lit w9 [.int .i64 2] 3 1 (by unfold maxLen; omega))).mono ?_
      rintro e w10 ⟨rfl, C10⟩
      have B10 := bel (B9.alloc B9.size _) C10
      clear C10 z0 z1 z2 Z9
      go_wp2_with fail
      go_ret
      exact ⟨rfl, B10⟩
end Go.Proofs.YtcknnlbfbjcjjaaDoor
