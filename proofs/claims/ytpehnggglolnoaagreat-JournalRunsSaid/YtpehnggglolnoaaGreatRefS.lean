/- Contracts of the reference's Sum, Bytes and Pair. -/
import Derived.Test.YtpehnggglolnoaaGreatRefH
namespace Go.Proofs.YtpehnggglolnoaaGreat
open Go.RowKit

set_option maxHeartbeats 1000000 in
theorem rsum_any (s : ByteArray) (v : Value) (xs : List Int) (w : World) (hv : Rv w v xs.length (xs.map (Value.int .i64))) (hs : s.size ≤ 1099511627776) (hxs : xs.length ≤ 1099511627776) :
    Calls Tryz.prog 67 #[.string s, v] w (RetU w (sumI s.data.toList xs)) := by
  obtain ⟨ao, cap, rfl, hc, _, _, hrd⟩ := hv
  have hl : s.data.toList.length = s.size := by simp
  have HL := Lib.hid hl
  clear hl
  go_enter Tryz.func67, Tryz.ntmps67
  go_wp2_with (first
    | (refine wpList_tobytes _ rfl _ rfl s rfl Tryz.underlying9 Tryz.underlying39 Tryz.underlying5 (by unfold maxLen; omega) ?_; intro v1 w1 hr1 hB1)
    | (go_at_call 66; refine (words_any _ s.data.toList _ (by assumption) (by rw [HL.out]; omega)).mono ?_; rintro e w2 ⟨v2, rfl, hM2⟩; obtain ⟨n2, ao2, cap2, HN2, rfl, hc2, hrd2⟩ := hM2.opened))
  obtain rfl : n2 = nWords s.data.toList := by rw [HN2.out, List.length_map, words_length]
  have hnb : nWords s.data.toList ≤ 1099511627776 := by unfold nWords; rw [HL.out]; omega
  have hB2 : Below w.heap.size w w2 := hB1.trans (hM2.2.mono hB1.size)
  obtain ⟨L, hL⟩ : ∃ L, L = s.data.toList := ⟨_, rfl⟩
  rw [← hL] at hnb hrd2 hM2 hc2 HN2 ⊢
  have HE := Lib.hid hL
  clear hL HN2
  go_loop [5, 7] (fun sv i => ∃ k : Nat, k ≤ nWords L ∧ i = .int .i64 k ∧ sv = .int .u64 ((absorb 0#64 (wordsTo L k)).toNat : Int)) (fun _ i => nWords L - (intOf i).toNat)
  case atStart => exact ⟨0, Nat.zero_le _, rfl, rfl⟩
  case round =>
    obtain ⟨k, hk, rfl, rfl⟩ := hrel
    by_cases hlt : k < nWords L
    · obtain ⟨b2, off2, rfl, hcx⟩ := hrd2.cell (i := k) (u := vU (wordAt L k)) (by simp [words, hlt])
      simp only [vU] at hcx
      go_wp2_with (go_at_call 91; refine (rmix_any _ _ _).mono ?_; rintro e w' ⟨rfl, rfl⟩)
      go_round
      case rel => exact ⟨k + 1, by omega, by go_num, by rw [wordsTo_succ, absorb_snoc, mixI_toNat]⟩
      case measure => simp [intOf]; omega
    · obtain rfl : k = nWords L := by omega
      clear hlt hk hrd2
      have hrd' := hrd.below hB2
      go_wp2_with (go_at_call 91; refine (rmix_any _ _ _).mono ?_; rintro e w' ⟨rfl, rfl⟩)
      have hv := headB_val L s.size xs.length (by rw [HE.out]; exact HL.out.symm)
      rw [hv]
      clear hv
      go_loop [5, 8] (fun sv i => ∃ k : Nat, k ≤ xs.length ∧ i = .int .i64 k ∧ sv = .int .u64 ((absorb (headB L xs.length) ((xs.map (BitVec.ofInt 64)).take k)).toNat : Int)) (fun _ i => xs.length - (intOf i).toNat)
      case atStart => exact ⟨0, Nat.zero_le _, rfl, rfl⟩
      case round =>
        obtain ⟨k, hk, rfl, rfl⟩ := hrel
        by_cases hlt : k < xs.length
        · obtain ⟨x, hx⟩ := getE hlt
          obtain ⟨b3, off3, rfl, hcx⟩ := hrd'.cell (i := k) (u := .int .i64 x) (by simp [hx])
          have HX := Lib.hid hx
          clear hx
          go_wp2_with (go_at_call 91; refine (rmix_any _ _ _).mono ?_; rintro e w' ⟨rfl, rfl⟩)
          go_round
          case rel => exact ⟨k + 1, by omega, by go_num, by rw [absorb_take _ HX.out, mixI_wrap, mixI_left]⟩
          case measure => simp [intOf]; omega
        · obtain rfl : k = xs.length := by omega
          go_wp2_with (go_at_call 91; refine (rmix_any _ _ _).mono ?_; rintro e w' ⟨rfl, rfl⟩)
          go_ret
          refine ⟨ret_val ?_, hB2⟩
          show Value.int .u64 _ = _
          rw [← HE.out, ← sumI_val, List.take_of_length_le (by simp)]

set_option maxHeartbeats 1000000 in
theorem rbytes_any (s : ByteArray) (v : Value) (bs : List UInt8) (w : World) (hv : Rv w v bs.length (bs.map vB)) (hs : s.size ≤ 1099511627776) (hbs : bs.length ≤ 1099511627776) :
    Calls Tryz.prog 55 #[.string s, v] w (RetU w (bytesB s.data.toList bs)) := by
  obtain ⟨ao, cap, rfl, hc, hrd⟩ := hv.opened
  go_enter Tryz.func55, Tryz.ntmps55
  go_wp2_with (go_at_call 66; refine (words_any _ bs _ hv hbs).mono ?_; rintro e w2 ⟨v2, rfl, hM2⟩; obtain ⟨n2, ao2, cap2, HN2, rfl, hc2, hrd2⟩ := hM2.opened)
  have hnb : nWords bs ≤ 200000000000 := by unfold nWords; omega
  obtain rfl : n2 = nWords bs := by rw [HN2.out, List.length_map, words_length]
  clear HN2
  go_loopw [6, 7] (fun lv i wr => ∃ k : Nat, k ≤ nWords bs ∧ i = .int .i64 k ∧ wr.ownsRow w2.heap.size 3 1 lv k (((wordsTo bs k).map toI).map (Value.int .i64)) ∧ Below w2.heap.size w2 wr) (fun _ i _ => nWords bs - (intOf i).toNat)
  case atStart => exact ⟨0, Nat.zero_le _, rfl, World.ownsRow_nil _ _ _ _, Below.refl _ _⟩
  case round =>
    obtain ⟨k, hk, rfl, hown, hB⟩ := hrel
    have hsz := hB.size
    by_cases hlt : k < nWords bs
    · obtain ⟨b2, off2, rfl, hcx⟩ := (hrd2.below hB).cell (i := k) (u := vU (wordAt bs k)) (by simp [words, hlt])
      simp only [vU] at hcx
      have HO := Lib.hid hown
      clear hown
      go_wp2_with (at_builtin; refine wpList_app _ rfl _ _ rfl Tryz.elI w2.heap.size _ k _ rfl (HO.out.alloc _) _ 1 [_] rfl (Rv.one _ _ _) rfl (ones1 _ rfl) (by omega) (by simp; omega) ?_; intro v' w' hown hg _)
      have hg' := hown
      go_roundw
      case rel =>
        refine ⟨k + 1, by omega, by go_num, ?_, (hB.alloc hB.size _).grown hg (by simp; omega) (fun b hb => (HO.out.lt b hb).1)⟩
        rw [wordsTo_succ, List.map_append, List.map_append]
        exact hg'
      case measure => simp [intOf]; omega
    · obtain rfl : k = nWords bs := by omega
      have HO := Lib.hid hown
      clear hown
      go_wp2_with (at_builtin; refine wpList_app _ rfl _ _ rfl Tryz.elI w2.heap.size _ _ _ rfl (HO.out.alloc _) _ 1 [_] rfl (Rv.one _ _ _) rfl (ones1 _ rfl) (by omega) (by simp; omega) ?_; intro v' w' hown hg _; have HO2 := Lib.hid hown; clear hown)
      have hB3 : Below w.heap.size w w' := (hM2.2.trans ((hB.alloc hsz _).mono hM2.2.size)).grown hg (by have := hM2.2.size; simp; omega) (fun b hb => by have := (HO.out.lt b hb).1; have := hM2.2.size; omega)
      refine (rsum_any s v' ((words bs).map toI ++ [(bs.length : Int)]) w' ?_ hs ?_).mono ?_
      · rw [List.length_append, List.length_map, words_length, List.map_append]
        exact Rv.of_own HO2.out
      · rw [List.length_append, List.length_map, words_length]; simp; omega
      · rintro e w3 ⟨rfl, hB4⟩
        go_wp2
        go_ret
        refine ⟨ret_val ?_, hB3.trans (hB4.mono hB3.size)⟩
        show Value.int .u64 _ = _
        rw [sumI_toI]
        rfl

end Go.Proofs.YtpehnggglolnoaaGreat
