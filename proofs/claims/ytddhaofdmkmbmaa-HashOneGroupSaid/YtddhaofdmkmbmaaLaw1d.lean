/- The walk of HashOneGroup. -/
import Derived.Test.YtddhaofdmkmbmaaLives1
import Derived.WalkSmall
namespace Go.Proofs.Ytddhaofdmkmbmaa
open Go.RowKit

theorem vB_xor (a b : UInt8) : vB (a ^^^ b) = .int .u8 (bits BinOp.xor IntKind.u8 (a.toNat : Int) (b.toNat : Int)) := by rw [vB, xor_u8]

/-- The end of HashOneGroup: two byte slices that differ within one group. -/
def OneEnd (us ys : List UInt8) (i : Nat) : Prop := us.length = ys.length ∧ ∀ j, j / 8 ≠ i → us[j]? = ys[j]?

theorem set_get_other {us : List UInt8} {k j : Nat} {x : UInt8} (h : k ≠ j) : (us.set k x)[j]? = us[j]? := by
  rw [List.getElem?_set, if_neg h]

set_option maxRecDepth 100000 in
set_option maxHeartbeats 2000000 in
theorem law_HashOneGroup (s : ByteArray) (v : Value) (bs0 : List UInt8) (at_ : Int) (one two : UInt8) (w : World) (hv : Rv w v bs0.length (bs0.map vB)) (hs : s.size ≤ maxLen)
    (ha : -9223372036854775808 ≤ at_) (ha' : at_ ≤ 9223372036854775807) :
    Calls Try.prog 6 #[.string s, v, .int .i64 at_, .int .u8 (one.toNat : Int), .int .u8 (two.toNat : Int)] w (RetT w) := by
  go_enter Try.func6, Try.ntmps6
  go_wp2_with fail
  refine (short_some s 20 (by omega) _ hs).mono ?_
  rintro e w1 ⟨t, ht, rfl, rfl⟩
  go_wp2_with fail
  refine (few_some v bs0 39 (by omega) _ hv).mono ?_
  rintro e w2 ⟨v2, cs, HY, hy, rfl, hM2, hr2⟩
  have hB2 := hM2.2
  have hs2 := hB2.size
  go_wp2_with (at_builtin; refine wpList_app _ rfl _ _ rfl Try.elB w.heap.size v2 _ _ rfl (hM2.1.alloc _) _ 1 [_] rfl (Rv.one _ _ _) rfl (ones1 _ rfl) (by rw [List.length_map]; omega) (by simp; omega) ?_; intro v3 w3 hown3 hg3 _)
  have hB3 : Below w.heap.size w w3 := (hB2.alloc hs2 _).grown hg3 (by simp; omega) (fun b hb => (hM2.1.lt b hb).1)
  have hs3 := hB3.size
  rw [List.length_map] at hown3
  obtain ⟨zs, hz⟩ : ∃ zs, zs = cs ++ [65] := ⟨_, rfl⟩
  have hzl : zs.length = cs.length + 1 := by rw [hz]; simp
  have hown3' : w3.ownsRow w.heap.size 5 1 v3 zs.length (zs.map vB) := by rw [hzl, hz, List.map_append]; exact hown3
  clear hown3 hg3 hz
  have hr3 := Rv.of_own hown3'
  have hzn : zs.length ≤ 40 := by omega
  have hz1 : 1 ≤ zs.length := by omega
  clear hzl
  refine (few_some v3 zs 40 (by omega) _ hr3).mono ?_
  rintro e w4 ⟨v4, us, HU, hu, rfl, hM4, hr4⟩
  obtain rfl : us = zs := by rw [HU.out, List.take_of_length_le hzn]
  clear HU hu
  have hB4 := hM4.2
  have hs4 := hB4.size
  have hr3' := hr3.below hB4
  obtain ⟨ao3, cap3, rfl, hc3, hrd3⟩ := hr3'.opened
  go_wp2_with fail
  refine (around_nat at_ us.length hz1 ha ha' (by omega) _).mono ?_
  rintro e w5 ⟨k, hk, HK, rfl, rfl⟩
  obtain ⟨x, hx⟩ := getE hk
  obtain ⟨m, hm⟩ : ∃ m, us.length = m + 1 := ⟨us.length - 1, by omega⟩
  have hown4 : w4.ownsRow w3.heap.size 5 1 v4 (m + 1) (us.map vB) := by rw [← hm]; have := hM4.1; rwa [List.length_map] at this
  obtain ⟨g4, cap4, rfl, hg4, hc4, hcell4, hfr4⟩ := own_open hown4
  have hst := (hown4.stored k (vB (x ^^^ one))).1
  have hcx4 := hcell4 k (by omega)
  have hfx4 := hfr4 k
  have hkm : k < m + 1 := by omega
  have hm10 : m ≤ 40 := by omega
  have HX := Lib.hid hx
  have HM := Lib.hid hm
  clear hx hm
  rw [List.getElem?_map, HX.out] at hcx4
  simp only [Option.map_some, vB] at hcx4
  have hB5 : Below w3.heap.size w3 (w4.setCell ⟨g4, k, none⟩ (.int .u8 (bits BinOp.xor IntKind.u8 (x.toNat : Int) (one.toNat : Int)))) := hB4.setCell (p := ⟨g4, k, none⟩) hg4 _
  rw [← List.map_set, vB_xor] at hst
  by_cases h1 : k + 1 < m + 1 ∧ (k + 1) % 8 ≠ 0
  · obtain ⟨x1, hx1⟩ := getE (xs := us) (k := k + 1) (by rw [HM.out]; exact h1.1)
    have hcx4' := hcell4 (k + 1) h1.1
    have hfx4' := hfr4 (k + 1)
    rw [List.getElem?_map, hx1] at hcx4'
    simp only [Option.map_some, vB] at hcx4'
    have HX1 := Lib.hid hx1
    have h1a := h1.1
    have h1b := h1.2
    have hst2 := (hst.stored (k + 1) (vB (x1 ^^^ two))).1
    rw [← List.map_set, vB_xor] at hst2
    have hB6 : Below w3.heap.size w3 ((w4.setCell ⟨g4, k, none⟩ (.int .u8 (bits BinOp.xor IntKind.u8 (x.toNat : Int) (one.toNat : Int)))).setCell ⟨g4, k + 1, none⟩ (.int .u8 (bits BinOp.xor IntKind.u8 (x1.toNat : Int) (two.toNat : Int)))) := hB5.setCell (p := ⟨g4, k + 1, none⟩) hg4 _
    clear hcell4 hfr4 hx1 h1
    go_wp2_with fail
    obtain ⟨W6, hW6⟩ : ∃ W6, ((w4.setCell ⟨g4, k, none⟩ (.int .u8 (bits BinOp.xor IntKind.u8 (x.toNat : Int) (one.toNat : Int)))).setCell ⟨g4, k + 1, none⟩ (.int .u8 (bits BinOp.xor IntKind.u8 (x1.toNat : Int) (two.toNat : Int)))) = W6 := ⟨_, rfl⟩
    rw [hW6] at hB6 hst2 ⊢
    clear hW6
    have RA := hr3.below hB6
    have RB := Rv.of_own hst2
    obtain ⟨ys, hys⟩ : ∃ ys, ys = (us.set k (x ^^^ one)).set (k + 1) (x1 ^^^ two) := ⟨_, rfl⟩
    rw [← hys] at RB
    have hyl : ys.length = m + 1 := by rw [hys]; simp [HM.out]
    have hend : us.length = ys.length ∧ ∀ j, j / 8 ≠ k / 8 → us[j]? = ys[j]? := by
      refine ⟨by rw [hyl, HM.out], fun j hj => ?_⟩
      rw [hys]
      rw [set_get_other (by omega), set_get_other (by rintro rfl; exact hj (by omega))]
    have HE := Lib.hid hend
    have HYL := Lib.hid hyl
    have hB6w := bel hB3 hB6
    clear hend hys hyl hst2 hB5 hst hcx4 hfx4 hrd3 hr3'
    refine (hbytes_any t _ us _ RA (by omega) (by omega)).mono ?_
    rintro e w7 ⟨rfl, hB7⟩
    have RA7 := RA.below hB7
    have RB7 := RB.below hB7
    have hB7w := bel hB6w hB7
    go_wp2_with fail
    refine (hbytes_any t _ ys _ (by rw [HYL.out]; exact RB7) (by omega) (by rw [HYL.out]; omega)).mono ?_
    rintro e w8 ⟨rfl, hB8⟩
    have RA8 := RA7.below hB8
    have RB8 := RB7.below hB8
    have hB8w := bel hB7w hB8
    go_wp2_with fail
    refine (sameBytes_any _ _ us ys _ RA8 (by rw [HYL.out]; exact RB8)).mono ?_
    rintro e w9 ⟨rfl, n9, rfl⟩
    have hB9w := belD hB8w n9
    have hfact : ((((bytesB t.data.toList us).toNat : Int) == ((bytesB t.data.toList ys).toNat : Int)) == sameB us ys) = true := by
      by_cases h : us = ys
      · rw [← h, sameB_iff.2 rfl, toNat_eq' rfl]; rfl
      · rw [toNat_ne (group_ne HE.out.1 HE.out.2 h), show sameB us ys = false from by simp only [sameB, decide_eq_false_iff_not]; exact h]; rfl
    generalize bytesB t.data.toList us = X at hfact ⊢
    generalize bytesB t.data.toList ys = Y at hfact ⊢
    generalize sameB us ys = z at hfact ⊢
    clear RA RB RA7 RB7 RA8 RB8 hB7 hB8
    go_wp2_with fail
    refine (lives_any _).mono ?_
    rintro e w10 ⟨rfl, hB⟩
    have hB10 := bel hB9w hB
    go_wp2_with fail
    go_ret
    refine ⟨ret_val (congrArg Value.bool ?_), hB10⟩
    rfl
  · by_cases h1a : k + 1 < m + 1
    · have hno : (k + 1) % 8 = 0 := by omega
      clear hcell4 hfr4 h1
      go_wp2_with fail
      obtain ⟨W6, hW6⟩ : ∃ W6, (w4.setCell ⟨g4, k, none⟩ (.int .u8 (bits BinOp.xor IntKind.u8 (x.toNat : Int) (one.toNat : Int)))) = W6 := ⟨_, rfl⟩
      rw [hW6] at hB5 hst ⊢
      clear hW6
      have RA := hr3.below hB5
      have RB := Rv.of_own hst
      obtain ⟨ys, hys⟩ : ∃ ys, ys = us.set k (x ^^^ one) := ⟨_, rfl⟩
      rw [← hys] at RB
      have hyl : ys.length = m + 1 := by rw [hys]; simp [HM.out]
      have hend : us.length = ys.length ∧ ∀ j, j / 8 ≠ k / 8 → us[j]? = ys[j]? := by
        refine ⟨by rw [hyl, HM.out], fun j hj => ?_⟩
        rw [hys]
        rw [set_get_other (by rintro rfl; exact hj rfl)]
      have HE := Lib.hid hend
      have HYL := Lib.hid hyl
      have hB6w := bel hB3 hB5
      clear hend hys hyl hst hcx4 hfx4 hrd3 hr3'
      refine (hbytes_any t _ us _ RA (by omega) (by omega)).mono ?_
      rintro e w7 ⟨rfl, hB7⟩
      have RA7 := RA.below hB7
      have RB7 := RB.below hB7
      have hB7w := bel hB6w hB7
      go_wp2_with fail
      refine (hbytes_any t _ ys _ (by rw [HYL.out]; exact RB7) (by omega) (by rw [HYL.out]; omega)).mono ?_
      rintro e w8 ⟨rfl, hB8⟩
      have RA8 := RA7.below hB8
      have RB8 := RB7.below hB8
      have hB8w := bel hB7w hB8
      go_wp2_with fail
      refine (sameBytes_any _ _ us ys _ RA8 (by rw [HYL.out]; exact RB8)).mono ?_
      rintro e w9 ⟨rfl, n9, rfl⟩
      have hB9w := belD hB8w n9
      have hfact : ((((bytesB t.data.toList us).toNat : Int) == ((bytesB t.data.toList ys).toNat : Int)) == sameB us ys) = true := by
        by_cases h : us = ys
        · rw [← h, sameB_iff.2 rfl, toNat_eq' rfl]; rfl
        · rw [toNat_ne (group_ne HE.out.1 HE.out.2 h), show sameB us ys = false from by simp only [sameB, decide_eq_false_iff_not]; exact h]; rfl
      generalize bytesB t.data.toList us = X at hfact ⊢
      generalize bytesB t.data.toList ys = Y at hfact ⊢
      generalize sameB us ys = z at hfact ⊢
      clear RA RB RA7 RB7 RA8 RB8 hB7 hB8
      go_wp2_with fail
      refine (lives_any _).mono ?_
      rintro e w10 ⟨rfl, hB⟩
      have hB10 := bel hB9w hB
      go_wp2_with fail
      go_ret
      refine ⟨ret_val (congrArg Value.bool ?_), hB10⟩
      rfl
    · clear hcell4 hfr4 h1
      go_wp2_with fail
      obtain ⟨W6, hW6⟩ : ∃ W6, (w4.setCell ⟨g4, k, none⟩ (.int .u8 (bits BinOp.xor IntKind.u8 (x.toNat : Int) (one.toNat : Int)))) = W6 := ⟨_, rfl⟩
      rw [hW6] at hB5 hst ⊢
      clear hW6
      have RA := hr3.below hB5
      have RB := Rv.of_own hst
      obtain ⟨ys, hys⟩ : ∃ ys, ys = us.set k (x ^^^ one) := ⟨_, rfl⟩
      rw [← hys] at RB
      have hyl : ys.length = m + 1 := by rw [hys]; simp [HM.out]
      have hend : us.length = ys.length ∧ ∀ j, j / 8 ≠ k / 8 → us[j]? = ys[j]? := by
        refine ⟨by rw [hyl, HM.out], fun j hj => ?_⟩
        rw [hys]
        rw [set_get_other (by rintro rfl; exact hj rfl)]
      have HE := Lib.hid hend
      have HYL := Lib.hid hyl
      have hB6w := bel hB3 hB5
      clear hend hys hyl hst hcx4 hfx4 hrd3 hr3'
      refine (hbytes_any t _ us _ RA (by omega) (by omega)).mono ?_
      rintro e w7 ⟨rfl, hB7⟩
      have RA7 := RA.below hB7
      have RB7 := RB.below hB7
      have hB7w := bel hB6w hB7
      go_wp2_with fail
      refine (hbytes_any t _ ys _ (by rw [HYL.out]; exact RB7) (by omega) (by rw [HYL.out]; omega)).mono ?_
      rintro e w8 ⟨rfl, hB8⟩
      have RA8 := RA7.below hB8
      have RB8 := RB7.below hB8
      have hB8w := bel hB7w hB8
      go_wp2_with fail
      refine (sameBytes_any _ _ us ys _ RA8 (by rw [HYL.out]; exact RB8)).mono ?_
      rintro e w9 ⟨rfl, n9, rfl⟩
      have hB9w := belD hB8w n9
      have hfact : ((((bytesB t.data.toList us).toNat : Int) == ((bytesB t.data.toList ys).toNat : Int)) == sameB us ys) = true := by
        by_cases h : us = ys
        · rw [← h, sameB_iff.2 rfl, toNat_eq' rfl]; rfl
        · rw [toNat_ne (group_ne HE.out.1 HE.out.2 h), show sameB us ys = false from by simp only [sameB, decide_eq_false_iff_not]; exact h]; rfl
      generalize bytesB t.data.toList us = X at hfact ⊢
      generalize bytesB t.data.toList ys = Y at hfact ⊢
      generalize sameB us ys = z at hfact ⊢
      clear RA RB RA7 RB7 RA8 RB8 hB7 hB8
      go_wp2_with fail
      refine (lives_any _).mono ?_
      rintro e w10 ⟨rfl, hB⟩
      have hB10 := bel hB9w hB
      go_wp2_with fail
      go_ret
      refine ⟨ret_val (congrArg Value.bool ?_), hB10⟩
      rfl
end Go.Proofs.Ytddhaofdmkmbmaa
