/- The model of package text: One. -/
import Derived.Test.YtcknnlbfbjcjjaaDoorTxtJ
namespace Go.Proofs.YtcknnlbfbjcjjaaDoor
open Go.RowKit

/-- The encoding of a symbol. -/
def oneM (runes : Bool) (s : Nat) : List UInt8 :=
  if !runes || decide (s < 128) then [UInt8.ofNat s]
  else if s < 2048 then [UInt8.ofNat (192 + s / 64), UInt8.ofNat (128 + s % 64)]
  else if s < 65536 then [UInt8.ofNat (224 + s / 4096), UInt8.ofNat (128 + s / 64 % 64), UInt8.ofNat (128 + s % 64)]
  else [UInt8.ofNat (240 + s / 262144), UInt8.ofNat (128 + s / 4096 % 64), UInt8.ofNat (128 + s / 64 % 64), UInt8.ofNat (128 + s % 64)]
theorem vB_of (k : Nat) (h : k < 256) : vB (UInt8.ofNat k) = .int .u8 (k : Int) := by
  unfold vB
  rw [UInt8.toNat_ofNat', Nat.mod_eq_of_lt (by omega)]
theorem u8_wrap (k : Int) (h0 : 0 ≤ k) (h : k < 256) : IntKind.u8.wrap k = k := by rw [IntKind.wrap_u8]; omega

set_option maxHeartbeats 2000000 in
theorem one_any (s : Nat) (runes : Bool) (w : World) (h1 : runes = false → s ≤ 255) (h2 : s ≤ 1114111) :
    Calls Tryd.prog 45 #[.int .i64 (s : Int), .bool runes] w (RetMade w 5 ((oneM runes s).map vB)) := by
  by_cases hq : runes = false
  · have hs := h1 hq
    subst hq
    have e : oneM false s = [UInt8.ofNat s] := rfl
    rw [e, List.map_cons, List.map_nil, vB_of s (by omega)]
    have hw := u8_wrap (s : Int) (by omega) (by omega)
    go_enter Tryd.func45, Tryd.ntmps45
    go_wp2_with fail
    go_ret
    exact retMade (own_lit w [_] _ 1 1 rfl (by unfold maxLen; omega)) rfl ((Below.refl _ w).alloc (Nat.le_refl _) _)
  · have hq' : runes = true := by cases runes <;> simp_all
    subst hq'
    clear h1 hq
    by_cases ha : s < 128
    · have e : oneM true s = [UInt8.ofNat s] := by unfold oneM; simp [ha]
      rw [e, List.map_cons, List.map_nil, vB_of s (by omega)]
      have hw := u8_wrap (s : Int) (by omega) (by omega)
      have hi : (s : Int) < 128 := by omega
      go_enter Tryd.func45, Tryd.ntmps45
      go_wp2_with fail
      go_ret
      exact retMade (own_lit w [_] _ 1 1 rfl (by unfold maxLen; omega)) rfl ((Below.refl _ w).alloc (Nat.le_refl _) _)
    · have hi : ¬ (s : Int) < 128 := by omega
      by_cases hb : s < 2048
      · have e : oneM true s = [UInt8.ofNat (192 + s / 64), UInt8.ofNat (128 + s % 64)] := by unfold oneM; simp [ha, hb]
        rw [e, List.map_cons, List.map_cons, List.map_nil, vB_of _ (by omega), vB_of _ (by omega)]
        have hw1 := u8_wrap (192 + (s : Int) / 64) (by omega) (by omega)
        have hw2 := u8_wrap (128 + (s : Int) % 64) (by omega) (by omega)
        have hj : (s : Int) < 2048 := by omega
        go_enter Tryd.func45, Tryd.ntmps45
        go_wp2_with fail
        go_ret
        exact retMade (own_lit w [_, _] _ 1 2 rfl (by unfold maxLen; omega)) (by simp) ((Below.refl _ w).alloc (Nat.le_refl _) _)
      · have hj : ¬ (s : Int) < 2048 := by omega
        by_cases hc : s < 65536
        · have e : oneM true s = [UInt8.ofNat (224 + s / 4096), UInt8.ofNat (128 + s / 64 % 64), UInt8.ofNat (128 + s % 64)] := by unfold oneM; simp [ha, hb, hc]
          rw [e, List.map_cons, List.map_cons, List.map_cons, List.map_nil, vB_of _ (by omega), vB_of _ (by omega), vB_of _ (by omega)]
          have hw1 := u8_wrap (224 + (s : Int) / 4096) (by omega) (by omega)
          have hw2 := u8_wrap (128 + (s : Int) / 64 % 64) (by omega) (by omega)
          have hw3 := u8_wrap (128 + (s : Int) % 64) (by omega) (by omega)
          have hk : (s : Int) < 65536 := by omega
          go_enter Tryd.func45, Tryd.ntmps45
          go_wp2_with fail
          go_ret
          exact retMade (own_lit w [_, _, _] _ 1 3 rfl (by unfold maxLen; omega)) (by simp) ((Below.refl _ w).alloc (Nat.le_refl _) _)
        · have e : oneM true s = [UInt8.ofNat (240 + s / 262144), UInt8.ofNat (128 + s / 4096 % 64), UInt8.ofNat (128 + s / 64 % 64), UInt8.ofNat (128 + s % 64)] := by unfold oneM; simp [ha, hb, hc]
          rw [e, List.map_cons, List.map_cons, List.map_cons, List.map_cons, List.map_nil, vB_of _ (by omega), vB_of _ (by omega), vB_of _ (by omega), vB_of _ (by omega)]
          have hw1 := u8_wrap (240 + (s : Int) / 262144) (by omega) (by omega)
          have hw2 := u8_wrap (128 + (s : Int) / 4096 % 64) (by omega) (by omega)
          have hw3 := u8_wrap (128 + (s : Int) / 64 % 64) (by omega) (by omega)
          have hw4 := u8_wrap (128 + (s : Int) % 64) (by omega) (by omega)
          have hk : ¬ (s : Int) < 65536 := by omega
          go_enter Tryd.func45, Tryd.ntmps45
          go_wp2_with fail
          go_ret
          exact retMade (own_lit w [_, _, _, _] _ 1 4 rfl (by unfold maxLen; omega)) (by simp) ((Below.refl _ w).alloc (Nat.le_refl _) _)
end Go.Proofs.YtcknnlbfbjcjjaaDoor
