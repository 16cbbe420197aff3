/- law02: WireSizes. -/
import Derived.Test.YtofgcoapbocneaaLives2
import Derived.Test.YtofgcoapbocneaaRefB
namespace Go.Proofs.Ytofgcoapbocneaa
open Go.RowKit

theorem zvar_one (m : Int) (h : -63 ≤ m) (h' : m ≤ 63) : (zvar m).length = 1 := by
  rw [zvar, uvar_small (by rw [zz]; split <;> omega)]; rfl
/-- What the loop over the rest counts. -/
def more (r : Nat) : Nat := if r = 0 then 0 else (uvar r).length
theorem more_step (r : Nat) (h : 0 < r) (hr : r < 18446744073709551616) : more r = 1 + more (r / 128) := by
  rw [more, if_neg (by omega), more]
  by_cases h2 : r < 128
  · rw [uvar_small h2, if_pos (by omega)]; rfl
  · rw [uvar_step (by omega) hr, if_neg (by omega)]; simp only [List.length_cons]; omega
theorem more_start (r : Nat) (hr : r < 18446744073709551616) : (uvar r).length = 1 + more (r / 128) := by
  by_cases h : r = 0
  · subst h; rfl
  · have := more_step r (by omega) hr
    rw [more, if_neg h] at this
    exact this
theorem Made.len {w w' : World} {e : TypeId} {v : Value} {us : List Value} (h : Made w w' e v us) : ∃ ao cap, v = .slice ao us.length cap := by
  obtain ⟨ao, cap, h1, _, _⟩ := h.rv.opened
  exact ⟨ao, cap, h1⟩

theorem Wr.later {w w' : World} {b : Nat} {v : Value} {bs : List UInt8} (h : Wr w b v bs) (hb : Below w.heap.size w w') : Wr w' b v bs :=
  ⟨(hb.block b h.1.lt).trans h.1, own_below h.2 hb⟩

set_option maxHeartbeats 4000000 in
set_option maxRecDepth 20000 in
theorem law_WireSizes (u : BitVec 64) (n sh : Int) (hn : -9223372036854775808 ≤ n ∧ n ≤ 9223372036854775807) (hs : -9223372036854775808 ≤ sh ∧ sh ≤ 9223372036854775807) (w : World) :
    Calls Try.prog 3 #[.int .u64 u.toNat, .int .i64 n, .int .i64 sh] w (RetT w) := by
  have hu := u.isLt
  have hn1 := Lib.hid hn
  clear hn
  go_enter Try.func3, Try.ntmps3
  go_wp2_with fail
  refine (around_nat sh 64 (by decide) hs.1 hs.2 (by decide) _).mono ?_
  rintro e w1 ⟨k, hk, _, rfl, rfl⟩
  have hq : u.toNat / 2 ^ k < 18446744073709551616 := Nat.lt_of_le_of_lt (Nat.div_le_self _ _) hu
  have hwk : IntKind.u64.wrap (k : Int) = (k : Int) := by rw [IntKind.wrap_u64]; omega
  have hdiv : (u.toNat : Int) / 2 ^ k = ((u.toNat / 2 ^ k : Nat) : Int) := by rw [Int.natCast_ediv, Int.natCast_pow]; rfl
  generalize u.toNat / 2 ^ k = q at *
  have ht : ∀ r : Nat, r < 18446744073709551616 → IntKind.u64.wrap ((r : Int) / 128) = ((r / 128 : Nat) : Int) := by
    intro r hr; rw [IntKind.wrap_u64]; omega
  have HQ := Lib.hid hq
  have HT := Lib.hid ht
  clear hq ht hu hs
  go_wp2_with fail
  go_loopw [8, 9] (fun sv rv wr => ∃ sz r : Nat, sv = .int .i64 (sz : Int) ∧ rv = .int .u64 (r : Int) ∧ Hid (r < 18446744073709551616) ∧ Hid (sz + more r = (uvar q).length) ∧ wr = w) (fun _ rv _ => (intOf rv).toNat)
  case atStart => exact ⟨1, q / 128, rfl, congrArg (Value.int .u64) (HT.out q HQ.out), (show q / 128 < _ from by have := HQ.out; omega), (more_start q HQ.out).symm, rfl⟩
  case round =>
    obtain ⟨sz, r, rfl, rfl, HR, HS, rfl⟩ := hrel
    have hul := uvar_len q
    by_cases hr : 0 < r
    · have hgt : decide (0 < (r : Int)) = true := decide_eq_true (by omega)
      have hm := more_step r hr HR.out
      have hsz : wrap64 ((sz : Int) + 1) = (sz : Int) + 1 := by have := HS.out; unfold wrap64; omega
      have HM := Lib.hid hm
      have HP := Lib.hid hr
      clear hm hr hul
      go_wp2_with fail
      go_roundw
      case rel => exact ⟨sz + 1, r / 128, by go_num, congrArg (Value.int .u64) (HT.out r HR.out), (show r / 128 < _ from by have := HR.out; omega), (show sz + 1 + more (r / 128) = _ from by have := HS.out; have := HM.out; omega), trivial⟩
      case measure => have := HP.out; rw [HT.out r HR.out]; simp only [intOf]; omega
    · obtain rfl : r = 0 := by omega
      obtain rfl : sz = (uvar q).length := by have := HS.out; simpa [more] using this
      clear hr HS HR HT
      go_wp2_with fail
      refine (wuint_any _ _ _ q _ (Wr.new wr) HQ.out (by decide)).mono ?_
      rintro e w1 ⟨v1, rfl, W1, S1⟩
      have B1 := S1.bel (Wr.new wr) ((Below.refl _ wr).alloc (Nat.le_refl _) _) (Nat.le_refl _)
      rw [List.nil_append] at W1
      have hl1 := W1.1.lt
      go_wp2_with fail
      refine (bound_any n 63 (by decide) hn1.out.1 hn1.out.2 (by decide) _).mono ?_
      rintro e w2 ⟨m, hm1, hm2, rfl, rfl⟩
      have hz1 := zvar_one m hm1 hm2
      have hz2 := zvar_one (-m) (by omega) (by omega)
      have hneg : wrap64 (-m) = -m := by unfold wrap64; omega
      go_wp2_with fail
      refine (wint_any _ _ _ m _ (Wr.new w1) (by omega) (by omega) (by decide)).mono ?_
      rintro e w3 ⟨v3, rfl, W3, S3⟩
      have C3 := S3.bel (Wr.new w1) ((Below.refl _ w1).alloc (Nat.le_refl _) _) (Nat.le_refl _)
      go_wp2_with fail
      refine (wint_any _ _ _ (-m) _ W3 (by omega) (by omega) (by simp [hz1])).mono ?_
      rintro e w4 ⟨v4, rfl, W4, S4⟩
      have C4 := S4.bel W3 C3 (Nat.le_refl _)
      go_wp2_with fail
      refine (wbool_any _ _ _ (decide (0 < m)) _ W4 (by simp [hz1, hz2])).mono ?_
      rintro e w5 ⟨v5, rfl, W5, S5⟩
      have C5 := S5.bel W4 C4 (Nat.le_refl _)
      have h3 : (([] ++ zvar m ++ zvar (-m)) ++ [if decide (0 < m) = true then (1 : UInt8) else 0]).length = 3 := by simp [hz1, hz2]
      generalize ([] ++ zvar m ++ zvar (-m)) ++ [if decide (0 < m) = true then (1 : UInt8) else 0] = xs at *
      have X5 := W1.later C5
      have B5 := bel B1 C5
      clear W1 S1 B1 W3 S3 C3 W4 S4 C4 S5 C5 hz1 hz2
      go_wp2_with fail
      refine (wdone_any _ _ _ _ X5 (by omega)).mono ?_
      rintro e w6 ⟨d, rfl, M6⟩
      obtain ⟨ao, cap, rfl⟩ := M6.len
      have B6 := bel B5 M6.2
      have W6 := W5.later M6.2
      rw [List.length_map]
      go_wp2_with fail
      refine (wdone_any _ _ _ _ W6 (by omega)).mono ?_
      rintro e w7 ⟨d', rfl, M7⟩
      obtain ⟨ao', cap', rfl⟩ := M7.len
      have B7 := bel B6 M7.2
      rw [List.length_map, h3]
      go_wp2_with fail
      refine (lives_any _).mono ?_
      rintro e w8 ⟨rfl, B8⟩
      go_wp2_with fail
      go_ret
      exact ⟨rfl, bel B7 B8⟩
end Go.Proofs.Ytofgcoapbocneaa
