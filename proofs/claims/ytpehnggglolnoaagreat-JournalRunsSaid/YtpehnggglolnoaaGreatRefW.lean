/- The reference model of the encodings. -/
import Derived.Test.YtpehnggglolnoaaGreatReadR
namespace Go.Proofs.YtpehnggglolnoaaGreat
open Go.RowKit

theorem byte_high3 (m : Nat) : Value.int .u8 (128 + (m : Int) % 128) = vB (UInt8.ofNat (128 + m % 128)) := by
  rw [vB, toNat_ofNat_lt _ (by omega)]
  congr 1
theorem w64e (n : Int) (h : -9223372036854775808 ≤ n ∧ n ≤ 9223372036854775807) : wrap64 n = n := by unfold wrap64; omega

set_option maxHeartbeats 1000000 in
set_option maxRecDepth 20000 in
theorem euint_any (n : Nat) (w : World) (hn : n < 18446744073709551616) :
    Calls Tryz.prog 54 #[.int .u64 (n : Int)] w (RetMade w 5 ((uvar n).map vB)) := by
  have HN := Lib.hid hn
  clear hn
  go_enter Tryz.func54, Tryz.ntmps54
  go_wp2_with fail
  go_loopw [0, 3] (fun nv lv wr => ∃ (m : Nat) (pre : List UInt8), nv = .int .u64 (m : Int) ∧ m ≤ n ∧ Hid (uvar n = pre ++ uvar m) ∧ wr.ownsRow w.heap.size 5 1 lv pre.length (pre.map vB) ∧ Below w.heap.size w wr) (fun nv _ _ => (intOf nv).toNat)
  case atStart => exact ⟨n, [], rfl, Nat.le_refl _, rfl, World.ownsRow_nil _ _ _ _, Below.refl _ _⟩
  case round =>
    obtain ⟨m, pre, rfl, hmn, HE, hown, hB⟩ := hrel
    have hpl : pre.length ≤ 10 := by
      have := congrArg List.length HE.out
      have h10 := uvar_len n
      simp only [List.length_append] at this
      omega
    have hsz := hB.size
    have HM := Lib.hid hmn
    clear hmn
    by_cases hlt : m < 128
    · have hd : decide ((127 : Int) < (m : Int)) = false := decide_eq_false (by omega)
      have HL := Lib.hid hlt
      clear hlt
      go_wp2_with (at_builtin; refine wpList_app _ rfl _ _ rfl Tryz.elB w.heap.size _ _ _ rfl (hown.alloc _) _ 1 [_] rfl (Rv.one _ _ _) rfl (ones1 _ rfl) (by omega) (by simp; omega) ?_; intro v2 w2 hown2 hg _)
      go_ret
      rw [byte_low, show pre.map vB ++ [vB (UInt8.ofNat m)] = (pre ++ [UInt8.ofNat m]).map vB from by simp] at hown2
      exact retMade hown2 (by rw [HE.out, uvar_small HL.out]) ((hB.alloc hB.size _).grown hg (by simp; omega) (fun g hg' => (hown.lt g hg').1))
    · have hd : decide ((127 : Int) < (m : Int)) = true := decide_eq_true (by omega)
      have HL := Lib.hid hlt
      clear hlt
      go_wp2_with (at_builtin; refine wpList_app _ rfl _ _ rfl Tryz.elB w.heap.size _ _ _ rfl (hown.alloc _) _ 1 [_] rfl (Rv.one _ _ _) rfl (ones1 _ rfl) (by omega) (by simp; omega) ?_; intro v2 w2 hown2 hg _)
      have hB2 := (hB.alloc hB.size (.cells #[Value.int .u8 (128 + (m : Int) % 128)] 5)).grown hg (by simp; omega) (fun g hg' => (hown.lt g hg').1)
      rw [byte_high3, show pre.map vB ++ [vB (UInt8.ofNat (128 + m % 128))] = (pre ++ [UInt8.ofNat (128 + m % 128)]).map vB from by simp] at hown2
      have hw : IntKind.u64.wrap ((m : Int) / 128) = ((m / 128 : Nat) : Int) := by have := HN.out; have := HM.out; rw [IntKind.wrap_u64]; omega
      go_roundw
      case rel =>
        refine ⟨m / 128, pre ++ [UInt8.ofNat (128 + m % 128)], congrArg (Value.int .u64) hw, by have := HM.out; omega, ?_, ?_, hB2⟩
        · show uvar n = _
          rw [HE.out, uvar_step (by have := HL.out; omega) (by have := HN.out; have := HM.out; omega), List.append_assoc]; rfl
        · rw [List.length_append]; exact hown2
      case measure => have := HL.out; rw [hw]; simp only [intOf]; omega

theorem zz_wrap (n : Int) (h : n < 0) (hn : -9223372036854775808 ≤ n) : IntKind.u64.wrap (-(n + 1)) = -(n + 1) := by rw [IntKind.wrap_u64]; omega
theorem ezig_any (n : Int) (w : World) (hn : -9223372036854775808 ≤ n) (hn' : n ≤ 9223372036854775807) :
    Calls Tryz.prog 90 #[.int .i64 n] w fun e w' => e = .returned (.int .u64 ((zz n : Nat) : Int)) ∧ w = w' := by
  by_cases h : n < 0
  · have hd : decide (n < 0) = true := decide_eq_true h
    have e1 : wrap64 (n + 1) = n + 1 := w64e _ (by omega)
    have e2 : wrap64 (-(n + 1)) = -(n + 1) := w64e _ (by omega)
    have e3 := zz_wrap n h hn
    have e4 : IntKind.u64.wrap (2 * (-(n + 1))) = 2 * (-(n + 1)) := by rw [IntKind.wrap_u64]; omega
    have e5 : IntKind.u64.wrap (2 * (-(n + 1)) + 1) = 2 * (-(n + 1)) + 1 := by rw [IntKind.wrap_u64]; omega
    go_enter Tryz.func90, Tryz.ntmps90
    go_wp2_with fail
    go_ret
    refine ⟨ret_val (congrArg (Value.int .u64) ?_), rfl⟩
    rw [zz]; split <;> omega
  · have hd : decide (n < 0) = false := decide_eq_false h
    have e3 : IntKind.u64.wrap n = n := by rw [IntKind.wrap_u64]; omega
    have e4 : IntKind.u64.wrap (2 * n) = 2 * n := by rw [IntKind.wrap_u64]; omega
    go_enter Tryz.func90, Tryz.ntmps90
    go_wp2_with fail
    go_ret
    refine ⟨ret_val (congrArg (Value.int .u64) ?_), rfl⟩
    rw [zz]; split <;> omega

theorem eback_any (n : Nat) (w : World) (hn : n < 18446744073709551616) :
    Calls Tryz.prog 77 #[.int .u64 (n : Int)] w fun e w' => e = .returned (.int .i64 (back n)) ∧ w = w' := by
  have e0 : IntKind.u64.wrap ((n : Int) / 2) = (n : Int) / 2 := by rw [IntKind.wrap_u64]; omega
  have e1 : wrap64 ((n : Int) / 2) = (n : Int) / 2 := w64e _ (by omega)
  have e2 : wrap64 (-((n : Int) / 2)) = -((n : Int) / 2) := w64e _ (by omega)
  have e3 : wrap64 (-((n : Int) / 2) - 1) = -((n : Int) / 2) - 1 := w64e _ (by omega)
  by_cases h : n % 2 = 1
  · have hd : ((n : Int) % 2 == 1) = true := beq_iff_eq.2 (by omega)
    have HN := Lib.hid hn
    clear hn
    go_enter Tryz.func77, Tryz.ntmps77
    go_wp2_with fail
    go_ret
    refine ⟨ret_val (congrArg (Value.int .i64) ?_), rfl⟩
    rw [e3, back, if_pos h]; omega
  · have hd : ((n : Int) % 2 == 1) = false := beq_eq_false_iff_ne.2 (by omega)
    have HN := Lib.hid hn
    clear hn
    go_enter Tryz.func77, Tryz.ntmps77
    go_wp2_with fail
    go_ret
    refine ⟨ret_val (congrArg (Value.int .i64) ?_), rfl⟩
    rw [e1, back, if_neg h]; omega

theorem eint_any (n : Int) (w : World) (hn : -9223372036854775808 ≤ n) (hn' : n ≤ 9223372036854775807) :
    Calls Tryz.prog 65 #[.int .i64 n] w (RetMade w 5 ((zvar n).map vB)) := by
  go_enter Tryz.func65, Tryz.ntmps65
  go_wp2_with fail
  refine (ezig_any n _ hn hn').mono ?_
  rintro e w1 ⟨rfl, rfl⟩
  go_wp2_with fail
  refine (euint_any _ _ (zz_lt n ⟨hn, hn'⟩)).mono ?_
  rintro e w2 ⟨v2, rfl, h2⟩
  go_wp2_with fail
  go_ret
  exact ⟨v2, rfl, h2⟩

set_option maxHeartbeats 1000000 in
theorem eraw_any (c : Value) (us : List UInt8) (w : World) (hc : Rv w c us.length (us.map vB)) (hl : us.length ≤ 1099511627776) :
    Calls Tryz.prog 53 #[c] w (RetMade w 5 ((rawW us).map vB)) := by
  obtain ⟨ao, cap, rfl, hcap, hrd⟩ := hc.opened
  have hu : IntKind.u64.wrap (us.length : Int) = (us.length : Int) := by rw [IntKind.wrap_u64]; omega
  have hul := uvar_len us.length
  go_enter Tryz.func53, Tryz.ntmps53
  go_wp2_with fail
  refine (euint_any us.length _ (by omega)).mono ?_
  rintro e w1 ⟨v1, rfl, h1, h2⟩
  have hs := h2.size
  have hlen : ((uvar us.length).map vB).length = (uvar us.length).length := List.length_map _
  go_wp2_with (at_builtin; refine wpList_app _ rfl _ _ rfl Tryz.elB w.heap.size _ _ _ rfl h1 _ us.length _ rfl (hc.below h2) (by simp) (ones_B _) (by omega) hs ?_; intro v2 w2 hown hg _)
  go_ret
  exact retMade hown (by rw [rawW, List.map_append]) (h2.grown hg hs (fun g hg' => (h1.lt g hg').1))

end Go.Proofs.YtpehnggglolnoaaGreat
