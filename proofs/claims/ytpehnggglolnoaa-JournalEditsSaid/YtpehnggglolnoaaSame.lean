/- Contracts of SameBytes and SameInts. -/
import Derived.Test.YtpehnggglolnoaaRefA
import Derived.Deep.QuietTactic
import Derived.BigQuiet
namespace Go.Proofs.Ytpehnggglolnoaa
open Go.RowKit

theorem take_step {α : Type} {xs ys : List α} {k : Nat} {x : α} (h : xs.take k = ys.take k) (hx : xs[k]? = some x) (hy : ys[k]? = some x) : xs.take (k + 1) = ys.take (k + 1) := by
  rw [List.take_add_one, List.take_add_one, h, hx, hy]
theorem take_stop {α : Type} {xs ys : List α} (hl : xs.length = ys.length) (h : xs.take xs.length = ys.take xs.length) : xs = ys := by
  rw [List.take_length] at h; rw [h, hl, List.take_length]
theorem differ {α : Type} {xs ys : List α} {k : Nat} {x y : α} (hx : xs[k]? = some x) (hy : ys[k]? = some y) (hne : x ≠ y) : xs ≠ ys := by
  rintro rfl; rw [hx] at hy; exact hne (by simpa using hy)
theorem getE {α : Type} {xs : List α} {k : Nat} (h : k < xs.length) : ∃ x, xs[k]? = some x := ⟨xs[k], List.getElem?_eq_getElem h⟩

def sameB (xs ys : List UInt8) : Bool := decide (xs = ys)
def sameI (xs ys : List Int) : Bool := decide (xs = ys)
theorem sameB_iff {xs ys : List UInt8} : sameB xs ys = true ↔ xs = ys := by simp [sameB]
theorem sameI_iff {xs ys : List Int} : sameI xs ys = true ↔ xs = ys := by simp [sameI]

set_option maxHeartbeats 800000 in
/-- SameBytes: whether the elements are equal. -/
theorem sameBytes_any (u v : Value) (xs ys : List UInt8) (w : World) (hu : Rv w u xs.length (xs.map vB)) (hv : Rv w v ys.length (ys.map vB)) :
    Calls Try.prog 25 #[u, v] w fun e w' => e = .returned (.bool (sameB xs ys)) ∧ ∃ n, w' = w.drewN n := by
  have hm := hu.len
  have hm' := hv.len
  obtain ⟨ao, cap, rfl, hc, _, _, hrd⟩ := hu
  obtain ⟨ao', cap', rfl, hc', _, _, hrd'⟩ := hv
  unfold maxLen at hm hm'
  by_cases hl : xs.length = ys.length
  · have HL := Lib.hid hl
    have h1 : xs.length ≤ ys.length := by omega
    have h2 : ys.length ≤ xs.length := by omega
    clear hl
    go_enter Try.func25, Try.ntmps25
    go_wp2
    go_loopw [5] (fun i wr => ∃ k : Nat, k ≤ xs.length ∧ i = .int .i64 k ∧ Hid (xs.take k = ys.take k) ∧ ∃ n, wr = w.drewN n) (fun i _ => xs.length - (intOf i).toNat)
    case atStart => exact ⟨0, Nat.zero_le _, rfl, rfl, 0, rfl⟩
    case round =>
      obtain ⟨k, hk, rfl, HT, n, rfl⟩ := hrel
      by_cases hlt : k < xs.length
      · obtain ⟨x, hx⟩ := getE hlt
        obtain ⟨y, hy⟩ := getE (xs := ys) (k := k) (by omega)
        obtain ⟨b, off, rfl, hcx⟩ := hrd.cell (i := k) (u := vB x) (by simp [hx])
        obtain ⟨b', off', rfl, hcy⟩ := hrd'.cell (i := k) (u := vB y) (by simp [hy])
        simp only [vB] at hcx hcy
        have HX := Lib.hid hx
        have HY := Lib.hid hy
        clear hx hy hrd hrd'
        by_cases hxy : x = y
        · subst hxy
          go_wp2
          go_quiet (fail)
          go_wp2
          go_roundw
          case rel => exact ⟨k + 1, by omega, by go_num, take_step HT.out HX.out HY.out, n + nq, by simp⟩
          case measure => simp [intOf]; omega
        · have hne : ((x.toNat : Int) == y.toNat) = false := by
            simp only [beq_eq_false_iff_ne, ne_eq]
            intro h; exact hxy (UInt8.toNat_inj.1 (by omega))
          have hne' : ¬ (x.toNat : Int) = y.toNat := by simpa using hne
          go_wp2
          go_quiet (fail)
          go_wp2
          go_ret
          refine ⟨ret_val ?_, n + nq, by simp⟩
          have : sameB xs ys = false := by simp only [sameB, decide_eq_false_iff_not]; exact differ HX.out HY.out hxy
          rw [this]; rfl
      · obtain rfl : k = xs.length := by omega
        go_wp2
        go_ret
        refine ⟨ret_val ?_, n, rfl⟩
        have : sameB xs ys = true := sameB_iff.2 (take_stop HL.out HT.out)
        rw [this]; rfl
  · go_enter Try.func25, Try.ntmps25
    go_wp2
    go_ret
    refine ⟨ret_val ?_, 0, rfl⟩
    have : sameB xs ys = false := by simp only [sameB, decide_eq_false_iff_not]; rintro rfl; exact hl rfl
    rw [this]; rfl

set_option maxHeartbeats 800000 in
/-- SameInts: whether the elements are equal. -/
theorem sameInts_any (u v : Value) (xs ys : List Int) (w : World) (hu : Rv w u xs.length (xs.map (Value.int .i64))) (hv : Rv w v ys.length (ys.map (Value.int .i64))) :
    Calls Try.prog 22 #[u, v] w fun e w' => e = .returned (.bool (sameI xs ys)) ∧ ∃ n, w' = w.drewN n := by
  have hm := hu.len
  have hm' := hv.len
  obtain ⟨ao, cap, rfl, hc, _, _, hrd⟩ := hu
  obtain ⟨ao', cap', rfl, hc', _, _, hrd'⟩ := hv
  unfold maxLen at hm hm'
  by_cases hl : xs.length = ys.length
  · have HL := Lib.hid hl
    have h1 : xs.length ≤ ys.length := by omega
    have h2 : ys.length ≤ xs.length := by omega
    clear hl
    go_enter Try.func22, Try.ntmps22
    go_wp2
    go_loopw [5] (fun i wr => ∃ k : Nat, k ≤ xs.length ∧ i = .int .i64 k ∧ Hid (xs.take k = ys.take k) ∧ ∃ n, wr = w.drewN n) (fun i _ => xs.length - (intOf i).toNat)
    case atStart => exact ⟨0, Nat.zero_le _, rfl, rfl, 0, rfl⟩
    case round =>
      obtain ⟨k, hk, rfl, HT, n, rfl⟩ := hrel
      by_cases hlt : k < xs.length
      · obtain ⟨x, hx⟩ := getE hlt
        obtain ⟨y, hy⟩ := getE (xs := ys) (k := k) (by omega)
        obtain ⟨b, off, rfl, hcx⟩ := hrd.cell (i := k) (u := (Value.int .i64) x) (by simp [hx])
        obtain ⟨b', off', rfl, hcy⟩ := hrd'.cell (i := k) (u := (Value.int .i64) y) (by simp [hy])
        have HX := Lib.hid hx
        have HY := Lib.hid hy
        clear hx hy hrd hrd'
        by_cases hxy : x = y
        · subst hxy
          go_wp2
          go_quiet (fail)
          go_wp2
          go_roundw
          case rel => exact ⟨k + 1, by omega, by go_num, take_step HT.out HX.out HY.out, n + nq, by simp⟩
          case measure => simp [intOf]; omega
        · have hne : ((x : Int) == y) = false := by
            simp only [beq_eq_false_iff_ne, ne_eq]
            intro h; exact hxy (h)
          have hne' : ¬ (x : Int) = y := by simpa using hne
          go_wp2
          go_quiet (fail)
          go_wp2
          go_ret
          refine ⟨ret_val ?_, n + nq, by simp⟩
          have : sameI xs ys = false := by simp only [sameI, decide_eq_false_iff_not]; exact differ HX.out HY.out hxy
          rw [this]; rfl
      · obtain rfl : k = xs.length := by omega
        go_wp2
        go_ret
        refine ⟨ret_val ?_, n, rfl⟩
        have : sameI xs ys = true := sameI_iff.2 (take_stop HL.out HT.out)
        rw [this]; rfl
  · go_enter Try.func22, Try.ntmps22
    go_wp2
    go_ret
    refine ⟨ret_val ?_, 0, rfl⟩
    have : sameI xs ys = false := by simp only [sameI, decide_eq_false_iff_not]; rintro rfl; exact hl rfl
    rw [this]; rfl

theorem Rv.drewN {w : World} {v : Value} {n : Nat} {us : List Value} (h : Rv w v n us) (k : Nat) : Rv (w.drewN k) v n us := h
theorem belD {W a : World} (h : Below W.heap.size W a) (n : Nat) : Below W.heap.size W (a.drewN n) := below_drewN h n

theorem sameBytes_refl (u v : Value) (xs : List UInt8) (w : World) (hu : Rv w u xs.length (xs.map vB)) (hv : Rv w v xs.length (xs.map vB)) :
    Calls Try.prog 25 #[u, v] w fun e w' => e = .returned (.bool true) ∧ ∃ n, w' = w.drewN n :=
  (sameBytes_any u v xs xs w hu hv).mono fun _ _ ⟨he, hw⟩ => ⟨by rw [he, sameB_iff.2 rfl], hw⟩
theorem sameInts_refl (u v : Value) (xs : List Int) (w : World) (hu : Rv w u xs.length (xs.map (Value.int .i64))) (hv : Rv w v xs.length (xs.map (Value.int .i64))) :
    Calls Try.prog 22 #[u, v] w fun e w' => e = .returned (.bool true) ∧ ∃ n, w' = w.drewN n :=
  (sameInts_any u v xs xs w hu hv).mono fun _ _ ⟨he, hw⟩ => ⟨by rw [he, sameI_iff.2 rfl], hw⟩
end Go.Proofs.Ytpehnggglolnoaa
