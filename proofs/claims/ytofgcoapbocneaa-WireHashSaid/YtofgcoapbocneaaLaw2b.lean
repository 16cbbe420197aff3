/- law02: WireHash. -/
import Derived.Test.YtofgcoapbocneaaLaw2
import Derived.Test.YtofgcoapbocneaaHash
namespace Go.Proofs.Ytofgcoapbocneaa
open Go.RowKit

theorem hash_ne (L : List UInt8) (m n : Nat) (hm : m < 72057594037927936) (hne : m ≠ n) (hn : n < 72057594037927936) (hl : (uvar m).length = (uvar n).length) : bytesB L (uvar m) ≠ bytesB L (uvar n) := by
  have h1 := uvar_len8 m hm
  refine group_ne (i := 0) hl (fun j hj => ?_) (fun e => hne (uvar_inj (by omega) (by omega) e))
  have hj8 : 8 ≤ j := by omega
  rw [List.getElem?_eq_none (by omega), List.getElem?_eq_none (by omega)]

set_option maxHeartbeats 1000000 in
set_option maxRecDepth 20000 in
theorem law_WireHash (u v : BitVec 64) (sh : Int) (s : ByteArray) (hs : -9223372036854775808 ≤ sh ∧ sh ≤ 9223372036854775807) (hsl : s.size ≤ maxLen) (w : World) :
    Calls Try.prog 10 #[.int .u64 u.toNat, .int .u64 v.toNat, .int .i64 sh, .string s] w (RetT w) := by
  have hu := u.isLt
  have hv := v.isLt
  go_enter Try.func10, Try.ntmps10
  go_wp2_with fail
  refine (around_nat sh 56 (by decide) hs.1 hs.2 (by decide) _).mono ?_
  rintro e w1 ⟨k, hk, _, rfl, rfl⟩
  have hw1 : wrap64 (8 + (k : Int)) = ((8 + k : Nat) : Int) := by unfold wrap64; omega
  have hwk : IntKind.u64.wrap ((8 + k : Nat) : Int) = ((8 + k : Nat) : Int) := by rw [IntKind.wrap_u64]; omega
  have hq : ∀ x : Nat, x < 2 ^ 64 → x / 2 ^ (8 + k) < 72057594037927936 := by
    intro x hx
    rw [Nat.pow_add, ← Nat.div_div_eq_div_mul]
    exact Nat.lt_of_le_of_lt (Nat.div_le_self _ _) (by omega)
  have hdiv1 : (u.toNat : Int) / 2 ^ (8 + k) = ((u.toNat / 2 ^ (8 + k) : Nat) : Int) := by rw [Int.natCast_ediv, Int.natCast_pow]; rfl
  have hdiv2 : (v.toNat : Int) / 2 ^ (8 + k) = ((v.toNat / 2 ^ (8 + k) : Nat) : Int) := by rw [Int.natCast_ediv, Int.natCast_pow]; rfl
  have hm := Lib.hid (hq _ hu)
  have hn := Lib.hid (hq _ hv)
  generalize u.toNat / 2 ^ (8 + k) = m at *
  generalize v.toNat / 2 ^ (8 + k) = n at *
  clear hq hu hv
  go_wp2_with fail
  refine (wuint_any _ _ _ m _ (Wr.new w) (by have := hm.out; omega) (by decide)).mono ?_
  rintro e w1 ⟨v1, rfl, W1, S1⟩
  have B1 := S1.bel (Wr.new w) ((Below.refl _ w).alloc (Nat.le_refl _) _) (Nat.le_refl _)
  rw [List.nil_append] at W1
  have hl1 := W1.1.lt
  go_wp2_with fail
  refine (wuint_any _ _ _ n _ (Wr.new w1) (by have := hn.out; omega) (by decide)).mono ?_
  rintro e w2 ⟨v2, rfl, W2, S2⟩
  have C2 := S2.bel (Wr.new w1) ((Below.refl _ w1).alloc (Nat.le_refl _) _) (Nat.le_refl _)
  rw [List.nil_append] at W2
  have W12 := W1.later C2
  have B2 := bel B1 C2
  have hul1 := uvar_len m
  have hul2 := uvar_len n
  have h81 := uvar_len8 m hm.out
  have h82 := uvar_len8 n hn.out
  clear W1 S1 B1 S2 C2
  go_wp2_with fail
  refine (wdone_any _ _ _ _ W12 (by omega)).mono ?_
  rintro e w3 ⟨d1, rfl, M3⟩
  have B3 := bel B2 M3.2
  have W3 := W2.later M3.2
  have R3 := M3.rv
  obtain ⟨ao, cap, rfl⟩ := M3.len
  rw [List.length_map] at R3 ⊢
  go_wp2_with fail
  refine (wdone_any _ _ _ _ W3 (by omega)).mono ?_
  rintro e w4 ⟨d2, rfl, M4⟩
  have B4 := bel B3 M4.2
  have R4 := R3.below M4.2
  have R4' := M4.rv
  obtain ⟨ao', cap', rfl⟩ := M4.len
  rw [List.length_map] at R4' ⊢
  go_wp2_with fail
  refine (short_some s 20 (by omega) _ hsl).mono ?_
  rintro e w5 ⟨t, ht, rfl, rfl⟩
  have hlt : decide (8 < ((uvar m).length : Int)) = false := decide_eq_false (by omega)
  have hle : decide (((uvar m).length : Int) ≤ 8) = true := decide_eq_true (by omega)
  clear M3 M4 W12 W3 W2 B3 B2 R3
  by_cases hmn : m = n
  · subst hmn
    go_wp2_with fail
    refine (hbytes_any t _ (uvar m) _ R4 (by omega) (by omega)).mono ?_
    rintro e w6 ⟨rfl, B6⟩
    go_wp2_with fail
    refine (hbytes_any t _ _ _ (R4'.below B6) (by omega) (by omega)).mono ?_
    rintro e w7 ⟨rfl, B7⟩
    go_wp2_with fail
    refine (lives_any _).mono ?_
    rintro e w8 ⟨rfl, B8⟩
    go_wp2_with fail
    go_ret
    exact ⟨rfl, bel (bel (bel B4 B6) B7) B8⟩
  · have hne : ((m : Int) == (n : Int)) = false := beq_eq_false_iff_ne.2 (by omega)
    have hne2 : ¬ (m : Int) = (n : Int) := by omega
    by_cases hll : (uvar m).length = (uvar n).length
    · have hh := toNat_ne (hash_ne t.data.toList m n hm.out hmn hn.out hll)
      rw [← hll] at R4' ⊢
      have HM := Lib.hid hmn
      have HL := Lib.hid hll
      clear hmn hll
      go_wp2_with fail
      refine (hbytes_any t _ (uvar m) _ R4 (by omega) (by omega)).mono ?_
      rintro e w6 ⟨rfl, B6⟩
      go_wp2_with fail
      refine (hbytes_any t _ (uvar n) _ (by rw [← HL.out]; exact R4'.below B6) (by omega) (by omega)).mono ?_
      rintro e w7 ⟨rfl, B7⟩
      go_wp2_with fail
      refine (lives_any _).mono ?_
      rintro e w8 ⟨rfl, B8⟩
      go_wp2_with fail
      go_ret
      exact ⟨rfl, bel (bel (bel B4 B6) B7) B8⟩
    · have hle2 : (((uvar m).length : Int) == ((uvar n).length : Int)) = false := beq_eq_false_iff_ne.2 (by omega)
      go_wp2_with fail
      refine (lives_any _).mono ?_
      rintro e w8 ⟨rfl, B8⟩
      go_wp2_with fail
      go_ret
      exact ⟨ret_val (congrArg Value.bool (show ((m : Int) != (n : Int)) = true from by rw [bne, hne]; rfl)), bel B4 B8⟩
end Go.Proofs.Ytofgcoapbocneaa
