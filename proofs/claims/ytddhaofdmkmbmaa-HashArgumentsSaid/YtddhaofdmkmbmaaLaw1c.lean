/- The walks of HashArguments and HashGroups. -/
import Derived.Test.YtddhaofdmkmbmaaLives1
import Derived.WalkSmall
namespace Go.Proofs.Ytddhaofdmkmbmaa
open Go.RowKit

set_option maxHeartbeats 1000000 in
theorem law_HashArguments (v u : Value) (xs : List Int) (bs : List UInt8) (w : World) (hv : Rv w v xs.length (xs.map (Value.int .i64))) (hu : Rv w u bs.length (bs.map vB)) :
    Calls Try.prog 10 #[v, u] w (RetT w) := by
  go_enter Try.func10, Try.ntmps10
  go_wp2_with fail
  refine (ints_some v xs 10 (by omega) _ hv).mono ?_
  rintro e w1 ⟨v1, ys, HY, hy, rfl, hM1, hr1⟩
  go_wp2_with fail
  have hB1 := hM1.2
  refine (few_some u bs 30 (by omega) _ (hu.below hB1)).mono ?_
  rintro e w2 ⟨v2, cs, HC, hc, rfl, hM2, hr2⟩
  have hB2 := bel hB1 hM2.2
  have r1 := hr1.below hM2.2
  go_wp2_with fail
  refine (hsum_any ⟨#[115, 97, 109, 101]⟩ v1 ys _ r1 (by decide) (by omega)).mono ?_
  rintro e w3 ⟨rfl, hB⟩
  have hB3 := bel hB2 hB
  replace r1 := r1.below hB
  replace hr2 := hr2.below hB
  go_wp2_with fail
  clear hB
  refine (hbytes_any ⟨#[115, 97, 109, 101]⟩ v2 cs _ hr2 (by decide) (by omega)).mono ?_
  rintro e w4 ⟨rfl, hB⟩
  have hB4 := bel hB3 hB
  replace r1 := r1.below hB
  replace hr2 := hr2.below hB
  go_wp2_with fail
  clear hB
  refine (ints_some v xs 10 (by omega) _ (hv.below hB4)).mono ?_
  rintro e w5 ⟨v5, zs, HZ, hz, rfl, hM5, hr5⟩
  obtain rfl : zs = ys := by rw [HZ.out, HY.out]
  have hB5 := bel hB4 hM5.2
  replace r1 := r1.below hM5.2
  replace hr2 := hr2.below hM5.2
  go_wp2_with fail
  refine (sameInts_refl v1 v5 zs _ r1 hr5).mono ?_
  rintro e w6 ⟨rfl, n6, rfl⟩
  have hB6 := belD hB5 n6
  replace r1 := r1.drewN n6
  replace hr2 := hr2.drewN n6
  go_wp2_with fail
  refine (few_some u bs 30 (by omega) _ (hu.below hB6)).mono ?_
  rintro e w7 ⟨v7, ds, HD, hd, rfl, hM7, hr7⟩
  obtain rfl : ds = cs := by rw [HD.out, HC.out]
  have hB7 := bel hB6 hM7.2
  replace r1 := r1.below hM7.2
  replace hr2 := hr2.below hM7.2
  go_wp2_with fail
  refine (sameBytes_refl v2 v7 ds _ hr2 hr7).mono ?_
  rintro e w8 ⟨rfl, n8, rfl⟩
  have hB8 := belD hB7 n8
  replace r1 := r1.drewN n8
  replace hr2 := hr2.drewN n8
  go_wp2_with fail
  refine (hsum_any ⟨#[115, 97, 109, 101]⟩ v1 zs _ r1 (by decide) (by omega)).mono ?_
  rintro e w9 ⟨rfl, hB⟩
  have hB9 := bel hB8 hB
  replace hr2 := hr2.below hB
  go_wp2_with fail
  clear hB
  refine (hbytes_any ⟨#[115, 97, 109, 101]⟩ v2 ds _ hr2 (by decide) (by omega)).mono ?_
  rintro e w10 ⟨rfl, hB⟩
  have hB10 := bel hB9 hB
  go_wp2_with fail
  clear hB
  refine (lives_any _).mono ?_
  rintro e w11 ⟨rfl, hB⟩
  have hB11 := bel hB10 hB
  go_wp2_with fail
  go_ret
  exact ⟨rfl, hB11⟩

set_option maxRecDepth 100000 in
set_option maxHeartbeats 2000000 in
theorem law_HashGroups (s : ByteArray) (v : Value) (bs0 : List UInt8) (w : World) (hv : Rv w v bs0.length (bs0.map vB)) (hs : s.size ≤ maxLen) :
    Calls Try.prog 8 #[.string s, v] w (RetT w) := by
  go_enter Try.func8, Try.ntmps8
  go_wp2_with fail
  refine (short_some s 20 (by omega) _ hs).mono ?_
  rintro e w1 ⟨t, ht, rfl, rfl⟩
  go_wp2_with fail
  refine (few_some v bs0 60 (by omega) _ hv).mono ?_
  rintro e w1 ⟨v1, bs, HC, hbs, rfl, hM1, hr1⟩
  have hB1 := hM1.2
  obtain ⟨ao1, cap1, rfl, hc1, hrd1⟩ := hr1.opened
  clear hM1
  go_wp2_with fail
  refine (words_any _ bs _ hr1 (by omega)).mono ?_
  rintro e w2 ⟨v2, rfl, hM2⟩
  obtain ⟨n2, ao2, cap2, HN2, rfl, hc2, hrd2⟩ := hM2.opened
  have hB2 := bel hB1 hM2.2
  have r1 := hr1.below hM2.2
  have hr1w := r1
  have hnb : nWords bs ≤ 8 := by unfold nWords; omega
  obtain rfl : n2 = nWords bs := by rw [HN2.out, List.length_map, words_length]
  clear HN2 hM2 hr1 hrd1
  go_wp2_with fail
  go_loopw [8, 9] (fun lv i wr => ∃ k : Nat, k ≤ nWords bs ∧ i = .int .i64 k ∧ wr.ownsRow w2.heap.size 3 1 lv k (((wordsTo bs k).map toI).map (Value.int .i64)) ∧ Below w2.heap.size w2 wr) (fun _ i _ => nWords bs - (intOf i).toNat)
  case atStart => exact ⟨0, Nat.zero_le _, rfl, World.ownsRow_nil _ _ _ _, Below.refl _ _⟩
  case round =>
    obtain ⟨k, hk, rfl, hown, hB⟩ := hrel
    have hsz := hB.size
    by_cases hlt : k < nWords bs
    · obtain ⟨b2, off2, rfl, hcx⟩ := (hrd2.below hB).cell (i := k) (u := vU (wordAt bs k)) (by simp [words, hlt])
      simp only [vU] at hcx
      have HO := Lib.hid hown
      clear hown
      go_wp2_with (at_builtin; refine wpList_app _ rfl _ _ rfl Try.elI w2.heap.size _ k _ rfl (HO.out.alloc _) _ 1 [_] rfl (Rv.one _ _ _) rfl (ones1 _ rfl) (by omega) (by simp; omega) ?_; intro v' w' hown hg _)
      have hg' := hown
      go_roundw
      case rel =>
        refine ⟨k + 1, by omega, by go_num, ?_, (hB.alloc hB.size _).grown hg (by simp; omega) (fun b hb => (HO.out.lt b hb).1)⟩
        rw [wordsTo_succ, List.map_append, List.map_append]
        exact hg'
      case measure => simp [intOf]; omega
    · obtain rfl : k = nWords bs := by omega
      have HO := Lib.hid hown
      clear hown hlt hk
      have r2 := r1.below hB
      have hBr := bel hB2 hB
      go_wp2_with fail
      refine (hbytes_any t _ bs _ r2 (by omega) (by omega)).mono ?_
      rintro e w3 ⟨rfl, hB3⟩
      have HO3 := Lib.hid (own_below HO.out hB3)
      have hBx := (hB.trans (hB3.mono hB.size))
      have hB3' := bel hBr hB3
      have r3 := r2.below hB3
      have hsz3 := hBx.size
      clear HO hB hsz r2 r1 hBr hB3
      go_wp2_with (at_builtin; refine wpList_app _ rfl _ _ rfl Try.elI w2.heap.size _ _ _ rfl (HO3.out.alloc _) _ 1 [_] rfl (Rv.one _ _ _) rfl (ones1 _ rfl) (by omega) (by simp; omega) ?_; intro v4 w4 hown4 hg4 _; have HO4 := Lib.hid hown4; clear hown4)
      have hBy : Below w2.heap.size w2 w4 := (hBx.alloc hsz3 _).grown hg4 (by simp; omega) (fun b hb => (HO3.out.lt b hb).1)
      have r4 : Rv w4 (.slice ao1 bs.length cap1) bs.length (bs.map vB) := (hr1w.below hBy)
      have hB4 := bel hB2 hBy
      refine (hsum_any t v4 ((words bs).map toI ++ [(bs.length : Int)]) w4 ?_ (by omega) ?_).mono ?_
      · rw [List.length_append, List.length_map, words_length, List.map_append]
        exact Rv.of_own HO4.out
      · rw [List.length_append, List.length_map, words_length]; simp; omega
      · intro e w5 ⟨he, hB5⟩
        rw [sumI_bytes] at he
        subst he
        have hB5' := bel hB4 hB5
        have r5 := r4.below hB5
        clear HO3 HO4 hBx hBy hB5 r4 r3 hg4 hsz3
        go_wp2_with fail
        refine (few_some _ bs 60 (by omega) _ r5).mono ?_
        rintro e w6 ⟨v6, ds, HD, hd, rfl, hM6, hr6⟩
        obtain rfl : ds = bs := by rw [HD.out, List.take_of_length_le hbs]
        have hB6 := bel hB5' hM6.2
        have r6 := r5.below hM6.2
        have HO6 := Lib.hid hM6.1
        have hs6 := hM6.2.size
        clear HD hd
        go_wp2_with (at_builtin; refine wpList_app _ rfl _ _ rfl Try.elB w5.heap.size v6 _ _ rfl (HO6.out.alloc _) _ 1 [_] rfl (Rv.one _ _ _) rfl (ones1 _ rfl) (by rw [List.length_map]; omega) (by simp; omega) ?_; intro v7 w7 hown7 hg7 _; have HO7 := Lib.hid hown7; clear hown7)
        · refine (lives_any _).mono ?_
          rintro e w10 ⟨rfl, hB⟩
          have hB7 : Below w.heap.size w w7 := (hB6.alloc hB6.size _).grown hg7 (by have := hB6.size; simp; omega) (fun b hb => by have := (HO6.out.lt b hb).1; have := hB5'.size; omega)
          have hB10 := bel hB7 hB
          go_wp2_with fail
          go_ret
          exact ⟨rfl, hB10⟩
        · have hB7 : Below w.heap.size w w7 := (hB6.alloc hB6.size _).grown hg7 (by have := hB6.size; simp; omega) (fun b hb => by have := (HO6.out.lt b hb).1; have := hB5'.size; omega)
          have hB7' : Below w5.heap.size w5 w7 := (hM6.2.alloc hs6 _).grown hg7 (by simp; omega) (fun b hb => (HO6.out.lt b hb).1)
          have r7 := r5.below hB7'
          have q7 : Rv w7 v7 (ds ++ [0]).length ((ds ++ [0]).map vB) := by
            have := Rv.of_own HO7.out
            rw [List.length_map] at this
            rw [List.map_append, List.length_append]
            exact this
          have ql : (ds ++ [0]).length ≤ 61 := by rw [List.length_append, List.length_singleton]; omega
          have h8 : ds.length % 8 ≠ 0 := by omega
          have hne := toNat_ne (bytesB_snoc_zero (L := t.data.toList) h8 (by omega))
          refine (hbytes_any t v7 (ds ++ [0]) _ q7 (by omega) (by omega)).mono ?_
          rintro e w8 ⟨rfl, hB8⟩
          have r8 := r7.below hB8
          have hB8' := bel hB7 hB8
          go_wp2_with fail
          refine (hbytes_any t _ ds _ r8 (by omega) (by omega)).mono ?_
          rintro e w9 ⟨rfl, hB9⟩
          have hB9' := bel hB8' hB9
          clear q7 ql h8 r8 r7 HO7 HO6 hg7 hM6 hB9 hB8
          generalize bytesB t.data.toList (ds ++ [0]) = X at hne ⊢
          generalize bytesB t.data.toList ds = Y at hne ⊢
          have hne2 : ¬ (X.toNat : Int) = Y.toNat := by simpa using hne
          go_wp2_with fail
          refine (lives_any _).mono ?_
          rintro e w10 ⟨rfl, hB⟩
          have hB10 := bel hB9' hB
          go_wp2_with fail
          go_ret
          refine ⟨ret_val (congrArg Value.bool ?_), hB10⟩
          simp only [bne, hne, Bool.not_false, Bool.or_true]
end Go.Proofs.Ytddhaofdmkmbmaa
