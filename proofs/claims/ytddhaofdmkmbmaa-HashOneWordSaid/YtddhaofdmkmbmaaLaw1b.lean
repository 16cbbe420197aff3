/- The walk of HashOneWord. -/
import Derived.Test.YtddhaofdmkmbmaaLives1
import Derived.Deep.RegionHeld3
namespace Go.Proofs.Ytddhaofdmkmbmaa
open Go.RowKit

set_option maxHeartbeats 1000000 in
theorem law_HashOneWord (s : ByteArray) (v : Value) (xs : List Int) (at_ val : Int) (w : World) (hv : Rv w v xs.length (xs.map (Value.int .i64))) (hxr : ∀ n ∈ xs, -9223372036854775808 ≤ n ∧ n ≤ 9223372036854775807) (hs : s.size ≤ maxLen)
    (hvr : -9223372036854775808 ≤ val ∧ val ≤ 9223372036854775807)
    (ha : -9223372036854775808 ≤ at_) (ha' : at_ ≤ 9223372036854775807) :
    Calls Try.prog 5 #[.string s, v, .int .i64 at_, .int .i64 val] w (RetT w) := by
  go_enter Try.func5, Try.ntmps5
  go_wp2_with fail
  refine (short_some s 20 (by omega) _ hs).mono ?_
  rintro e w1 ⟨t, ht, rfl, rfl⟩
  go_wp2_with fail
  refine (ints_some v xs 9 (by omega) _ hv).mono ?_
  rintro e w2 ⟨v2, ys, HY, hy, rfl, hM2, hr2⟩
  have hB2 := hM2.2
  have hs2 := hB2.size
  go_wp2_with (at_builtin; refine wpList_app _ rfl _ _ rfl Try.elI w.heap.size v2 _ _ rfl (hM2.1.alloc _) _ 1 [_] rfl (Rv.one _ _ _) rfl (ones1 _ rfl) (by rw [List.length_map]; omega) (by simp; omega) ?_; intro v3 w3 hown3 hg3 _)
  have hB3 : Below w.heap.size w w3 := (hB2.alloc hs2 _).grown hg3 (by simp; omega) (fun b hb => (hM2.1.lt b hb).1)
  have hs3 := hB3.size
  rw [List.length_map] at hown3
  obtain ⟨zs, hz⟩ : ∃ zs, zs = ys ++ [7] := ⟨_, rfl⟩
  have hzl : zs.length = ys.length + 1 := by rw [hz]; simp
  have hown3' : w3.ownsRow w.heap.size 3 1 v3 zs.length (zs.map (Value.int .i64)) := by rw [hzl, hz, List.map_append]; exact hown3
  have hzr : ∀ n ∈ zs, -9223372036854775808 ≤ n ∧ n ≤ 9223372036854775807 := by
    rw [hz, HY.out]
    intro n hn
    rcases List.mem_append.1 hn with h | h
    · exact hxr n (List.mem_of_mem_take h)
    · rw [List.mem_singleton.1 h]; omega
  have HZR := Lib.hid hzr
  clear hown3 hg3 hz hzr hxr
  have hr3 := Rv.of_own hown3'
  have hzn : zs.length ≤ 10 := by omega
  have hz1 : 1 ≤ zs.length := by omega
  clear hzl
  refine (ints_some v3 zs 10 (by omega) _ hr3).mono ?_
  rintro e w4 ⟨v4, us, HU, hu, rfl, hM4, hr4⟩
  obtain rfl : us = zs := by rw [HU.out, List.take_of_length_le hzn]
  clear HU hu
  have hB4 := hM4.2
  have hs4 := hB4.size
  have hr3' := hr3.below hB4
  obtain ⟨ao3, cap3, rfl, hc3, hrd3⟩ := hr3'.opened
  go_wp2_with fail
  refine (around_nat at_ us.length hz1 ha ha' (by omega) _).mono ?_
  rintro e w5 ⟨k, hk, HK, rfl, rfl⟩
  obtain ⟨x, hx⟩ := getE hk
  obtain ⟨m, hm⟩ : ∃ m, us.length = m + 1 := ⟨us.length - 1, by omega⟩
  have hown4 : w4.ownsRow w3.heap.size 3 1 v4 (m + 1) (us.map (Value.int .i64)) := by rw [← hm]; have := hM4.1; rwa [List.length_map] at this
  obtain ⟨g4, cap4, rfl, hg4, hc4, hcell4, hfr4⟩ := own_open hown4
  have hkm : k < m + 1 := by omega
  have hst := hown4.stored k (.int .i64 val)
  have hcx4 := hcell4 k (by omega)
  have hfx4 := hfr4 k
  obtain ⟨b3, off3, rfl, hcx3⟩ := hrd3.cell (i := k) (u := .int .i64 x) (by simp [hx])
  have HX := Lib.hid hx
  have hm10 : m ≤ 10 := by omega
  have HM := Lib.hid hm
  clear hx hm hfr4
  rw [List.getElem?_map, HX.out] at hcx4
  simp only [Option.map_some] at hcx4
  have hb3 : b3 < w3.heap.size := (hown3'.lt b3 rfl).2
  have hB5 : Below w3.heap.size w3 (w4.setCell ⟨g4, k, none⟩ (.int .i64 val)) := hB4.setCell (p := ⟨g4, k, none⟩) hg4 _
  have hc5 := (hB5.cell (p := ⟨b3, off3 + k, none⟩) hb3).trans ((hB4.cell (p := ⟨b3, off3 + k, none⟩) hb3).symm.trans hcx3)
  have RA := hr3.below hB5
  have RB := Rv.of_own hst.1
  rw [← List.map_set] at RB
  have hul : (us.set k val).length = m + 1 := by rw [List.length_set]; exact HM.out
  have HUL := Lib.hid hul
  clear hul hst hcell4 hown4 hM4 hr4 hrd3 hr3' hr3
  go_wp2_with fail
  obtain ⟨W5, hW5⟩ : ∃ W5, w4.setCell ⟨g4, k, none⟩ (.int .i64 val) = W5 := ⟨_, rfl⟩
  rw [hW5] at hB5 hc5 RA RB ⊢
  clear hW5 hcx4 hfx4 hcx3
  have hBr := Below.refl W5.heap.size W5
  have hb5 : b3 < W5.heap.size := World.block_lt_of_cell? _ _ hc5
  by_cases hxv : x = val
  · subst hxv
    have heq : (((sumI t.data.toList us).toNat : Int) == ((sumI t.data.toList (us.set k x)).toNat : Int)) = true := by rw [set_self HX.out]; simp
    go_region_held3 (fun W' => W'.cell? ⟨b3, off3 + k, none⟩ = some (.int .i64 x) ∧ Below W5.heap.size W5 W') (first | exact ⟨hcn, hBn⟩ | exact ⟨hc5, hBr.drew⟩)
      (first
        | (go_at_call_of 13 b3; have hS := (show (_ ∧ Below W5.heap.size W5 _) by assumption).2; refine (hsum_any t _ us _ (RA.below hS) (by omega) (by omega)).mono ?_; rintro e w' ⟨rfl, hB⟩; have hBn := bel hS hB; have hcn := (hBn.cell (p := ⟨b3, off3 + k, none⟩) hb5).trans hc5)
        | (go_at_call_of 13 g4; have hS := (show (_ ∧ Below W5.heap.size W5 _) by assumption).2; refine (hsum_any t _ (us.set k x) _ (by rw [HUL.out]; exact RB.below hS) (by omega) (by rw [HUL.out]; omega)).mono ?_; rintro e w' ⟨rfl, hB⟩; have hBn := bel hS hB; have hcn := (hBn.cell (p := ⟨b3, off3 + k, none⟩) hb5).trans hc5)
        | (go_at_call 15; have hS := (show (_ ∧ Below W5.heap.size W5 _) by assumption).2; refine (lives_any _).mono ?_; rintro e w' ⟨rfl, hB⟩; have hBn := bel hS hB; have hcn := (hBn.cell (p := ⟨b3, off3 + k, none⟩) hb5).trans hc5))
    go_wp2
    go_ret
    exact ⟨rfl, bel (bel hB3 hB5) hBn⟩
  · have hne : (((sumI t.data.toList us).toNat : Int) == ((sumI t.data.toList (us.set k val)).toNat : Int)) = false :=
      toNat_ne (sumI_set_ne HX.out fun h => hxv (ofInt_inj (HZR.out x (List.mem_of_getElem? HX.out)) hvr h))
    have hxv' : (x == val) = false := by simpa using hxv
    clear hxv
    go_region_held3 (fun W' => W'.cell? ⟨b3, off3 + k, none⟩ = some (.int .i64 x) ∧ Below W5.heap.size W5 W') (first | exact ⟨hcn, hBn⟩ | exact ⟨hc5, hBr.drew⟩)
      (first
        | (go_at_call_of 13 b3; have hS := (show (_ ∧ Below W5.heap.size W5 _) by assumption).2; refine (hsum_any t _ us _ (RA.below hS) (by omega) (by omega)).mono ?_; rintro e w' ⟨rfl, hB⟩; have hBn := bel hS hB; have hcn := (hBn.cell (p := ⟨b3, off3 + k, none⟩) hb5).trans hc5)
        | (go_at_call_of 13 g4; have hS := (show (_ ∧ Below W5.heap.size W5 _) by assumption).2; refine (hsum_any t _ (us.set k val) _ (by rw [HUL.out]; exact RB.below hS) (by omega) (by rw [HUL.out]; omega)).mono ?_; rintro e w' ⟨rfl, hB⟩; have hBn := bel hS hB; have hcn := (hBn.cell (p := ⟨b3, off3 + k, none⟩) hb5).trans hc5)
        | (go_at_call 15; have hS := (show (_ ∧ Below W5.heap.size W5 _) by assumption).2; refine (lives_any _).mono ?_; rintro e w' ⟨rfl, hB⟩; have hBn := bel hS hB; have hcn := (hBn.cell (p := ⟨b3, off3 + k, none⟩) hb5).trans hc5))
    go_wp2
    go_ret
    exact ⟨rfl, bel (bel hB3 hB5) hBn⟩
end Go.Proofs.Ytddhaofdmkmbmaa
