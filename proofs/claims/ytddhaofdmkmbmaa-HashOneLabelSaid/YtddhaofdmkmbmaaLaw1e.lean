/- The walk of HashOneLabel. -/
import Derived.Test.YtddhaofdmkmbmaaLives1
import Derived.WalkSmall
import Derived.Deep.RegionHeld3
namespace Go.Proofs.Ytddhaofdmkmbmaa
open Go.RowKit

theorem vB_xor' (a b : UInt8) : vB (a ^^^ b) = .int .u8 (bits BinOp.xor IntKind.u8 (a.toNat : Int) (b.toNat : Int)) := by rw [vB, xor_u8]

set_option maxRecDepth 100000 in
set_option maxHeartbeats 2000000 in
theorem law_HashOneLabel (s : ByteArray) (v : Value) (xs : List Int) (at_ : Int) (one : UInt8) (w : World) (hv : Rv w v xs.length (xs.map (Value.int .i64))) (hs : s.size ≤ maxLen)
    (ha : -9223372036854775808 ≤ at_) (ha' : at_ ≤ 9223372036854775807) :
    Calls Try.prog 7 #[.string s, v, .int .i64 at_, .int .u8 (one.toNat : Int)] w (RetT w) := by
  go_enter Try.func7, Try.ntmps7
  go_wp2_with fail
  refine (ints_some v xs 6 (by omega) _ hv).mono ?_
  rintro e w1 ⟨v1, ys, HY, hy, rfl, hM1, hr1⟩
  have hB1 := hM1.2
  go_wp2_with fail
  refine (short_some s 29 (by omega) _ hs).mono ?_
  rintro e w2 ⟨t, ht, rfl, rfl⟩
  have hqs : (t ++ ⟨#[120]⟩ : ByteArray).size ≤ maxLen := by rw [ByteArray.size_append]; unfold maxLen; have : (⟨#[120]⟩ : ByteArray).size = 1 := rfl; omega
  go_wp2_with (refine wpList_tobytes _ rfl _ rfl _ rfl Try.underlying9 Try.underlying30 Try.underlying5 hqs ?_; intro v3 w3 hr3 hB3)
  have hul0 : (t ++ ⟨#[120]⟩ : ByteArray).data.toList.length = t.size + 1 := by simp
  obtain ⟨us, hus⟩ : ∃ us, us = (t ++ ⟨#[120]⟩ : ByteArray).data.toList := ⟨_, rfl⟩
  rw [← hus] at hr3 hul0
  have hul : us.length ≤ 30 := by omega
  have hu1 : 1 ≤ us.length := by omega
  clear hus hul0
  have hB3w := bel hB1 hB3
  have RX3 := hr1.below hB3
  refine (few_some v3 us 30 (by omega) _ hr3).mono ?_
  rintro e w4 ⟨v4, zs, HU, hu, rfl, hM4, hr4⟩
  obtain rfl : zs = us := by rw [HU.out, List.take_of_length_le hul]
  clear HU hu
  have hB4 := hM4.2
  have hB4w := bel hB3w hB4
  have RX4 := RX3.below hB4
  have RA4 := hr3.below hB4
  have hlt3 : ∀ b off c, v3 = .slice (some ⟨b, off, none⟩) zs.length c → b < w3.heap.size := by
    rintro b off c rfl
    obtain ⟨x, hx⟩ := getE (xs := zs) (k := 0) (by omega)
    obtain ⟨ao, cap, he, _, _, _, hrd⟩ := hr3
    cases he
    obtain ⟨b2, off2, he2, hc2⟩ := hrd.cell (i := 0) (u := vB x) (by simp [hx])
    cases he2
    exact World.block_lt_of_cell? _ _ hc2
  obtain ⟨ao3, cap3, rfl, hc3, hrd3⟩ := RA4.opened
  go_wp2_with fail
  refine (around_nat at_ zs.length hu1 ha ha' (by omega) _).mono ?_
  rintro e w5 ⟨k, hk, HK, rfl, rfl⟩
  obtain ⟨x, hx⟩ := getE hk
  obtain ⟨m, hm⟩ : ∃ m, zs.length = m + 1 := ⟨zs.length - 1, by omega⟩
  have hown4 : w4.ownsRow w3.heap.size 5 1 v4 (m + 1) (zs.map vB) := by rw [← hm]; have := hM4.1; rwa [List.length_map] at this
  obtain ⟨g4, cap4, rfl, hg4, hc4, hcell4, hfr4⟩ := own_open hown4
  have hst := (hown4.stored k (vB (x ^^^ one))).1
  have hcx4 := hcell4 k (by omega)
  have hfx4 := hfr4 k
  have hkm : k < m + 1 := by omega
  have hm10 : m ≤ 40 := by omega
  have HX := Lib.hid hx
  have HM := Lib.hid hm
  clear hx hm
  rw [List.getElem?_map, HX.out] at hcx4
  simp only [Option.map_some, vB] at hcx4
  have hB5 : Below w3.heap.size w3 (w4.setCell ⟨g4, k, none⟩ (.int .u8 (bits BinOp.xor IntKind.u8 (x.toNat : Int) (one.toNat : Int)))) := hB4.setCell (p := ⟨g4, k, none⟩) hg4 _
  rw [← List.map_set, vB_xor'] at hst
  clear hcell4 hfr4
  go_wp2_with fail
  obtain ⟨W6, hW6⟩ : ∃ W6, (w4.setCell ⟨g4, k, none⟩ (.int .u8 (bits BinOp.xor IntKind.u8 (x.toNat : Int) (one.toNat : Int)))) = W6 := ⟨_, rfl⟩
  rw [hW6] at hB5 hst ⊢
  clear hW6
  have RX := RX3.below hB5
  have RA := hr3.below hB5
  have RB := Rv.of_own hst
  have hB6w := bel hB3w hB5
  obtain ⟨us, hus⟩ : ∃ us, us = zs.set k (x ^^^ one) := ⟨_, rfl⟩
  rw [← hus] at RB
  have hyl : us.length = m + 1 := by rw [hus]; simp [HM.out]
  have hend : zs.length = us.length ∧ ∀ j, j / 8 ≠ k / 8 → zs[j]? = us[j]? := by
    refine ⟨by rw [hyl, HM.out], fun j hj => ?_⟩
    rw [hus, List.getElem?_set, if_neg (by rintro rfl; exact hj rfl)]
  have hcvA : ∀ W', Below W6.heap.size W6 W' → (convert 30 9 (.slice ao3 zs.length cap3)).run Try.prog W' = .ok (.string ⟨zs.toArray⟩) W' :=
    fun W' hW => run_tostring W' _ _ _ Try.underlying30 Try.underlying5 Try.underlying9 _ zs (RA.below hW)
  have hcvB : ∀ W', Below W6.heap.size W6 W' → (convert 30 9 (.slice (some ⟨g4, 0, none⟩) (m + 1) cap4)).run Try.prog W' = .ok (.string ⟨us.toArray⟩) W' :=
    fun W' hW => run_tostring W' _ _ _ Try.underlying30 Try.underlying5 Try.underlying9 _ us (by rw [hyl]; exact RB.below hW)
  have hfact : ((((sumI zs ys).toNat : Int) == ((sumI us ys).toNat : Int)) == ((one.toNat : Int) == 0)) = true := by
    by_cases h : one = 0
    · subst h
      have : us = zs := by rw [hus, show x ^^^ 0 = x from UInt8.xor_zero, set_self HX.out]
      rw [this]; simp
    · have hne : zs ≠ us := by
        intro he
        have h1 : us[k]? = some (x ^^^ one) := by rw [hus, List.getElem?_set]; simp [hk]
        rw [← he, HX.out] at h1
        simp only [Option.some.injEq] at h1
        apply h
        have := congrArg (fun q => x ^^^ q) h1
        simpa [← UInt8.xor_assoc] using this.symm
      rw [toNat_ne (show sumI zs ys ≠ sumI us ys from label_ne hend.1 hend.2 hne)]
      have : one.toNat ≠ 0 := fun e => h (UInt8.toNat_inj.1 (by simpa using e))
      simp [this]
  have HZ := Lib.hid (show us.length ≤ 41 by omega)
  have HZL := Lib.hid hyl
  clear hend hus hyl hst hcx4 hfx4 hrd3 RX3 RX4 RA4 hr3 hr4 hM4 hown4
  have hBr := Below.refl W6.heap.size W6
  go_region_held3 (fun W' => Below W6.heap.size W6 W') (first | exact hBn | exact hBr.drew)
      (first
        | (go_at_call_of 13 us; have hS := (show Below W6.heap.size W6 _ by assumption); refine (hsum_any ⟨us.toArray⟩ _ ys _ (RX.below hS) (by show us.toArray.size ≤ _; have := HZ.out; simp; omega) (by omega)).mono ?_; rintro e w' ⟨rfl, hB⟩; have hBn := bel hS hB)
        | (go_at_call_of 13 zs; have hS := (show Below W6.heap.size W6 _ by assumption); refine (hsum_any ⟨zs.toArray⟩ _ ys _ (RX.below hS) (by show zs.toArray.size ≤ _; simp; omega) (by omega)).mono ?_; rintro e w' ⟨rfl, hB⟩; have hBn := bel hS hB)
        | (go_at_call 15; have hS := (show Below W6.heap.size W6 _ by assumption); refine (lives_any _).mono ?_; rintro e w' ⟨rfl, hB⟩; have hBn := bel hS hB))
  go_wp2
  go_ret
  exact ⟨rfl, bel hB6w hBn⟩
end Go.Proofs.Ytddhaofdmkmbmaa
