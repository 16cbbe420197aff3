/- Package journal, plain: which record a frame at the beginning holds; the records of bytes. -/
import Derived.Test.YtpehnggglolnoaaGreatJrnC
import Derived.Test.YtpehnggglolnoaaGreatRdI
namespace Go.Proofs.YtpehnggglolnoaaGreat
open Go.RowKit

/-- The record with number n whose frame is at the beginning, as the reference model finds it. -/
def firstJ (n : Int) (b : List UInt8) : Option (List UInt8) :=
  match rdRaw (.ok b) with
  | (_, .error _) => none
  | (core, .ok _) =>
    match rdRaw (rdI (.ok core)).2 with
    | (_, .error _) => none
    | (raw, .ok _) => if (frameM n raw).isPrefixOf b then some raw else none
theorem frameM_pos (n : Int) (raw : List UInt8) : 1 ≤ (frameM n raw).length := by
  have := uvar_pos (bytesB frameL (coreM n raw)).toNat
  rw [frameM, List.length_append]; omega
theorem frameM_core (n : Int) (raw : List UInt8) : raw.length ≤ (coreM n raw).length ∧ (coreM n raw).length ≤ (frameM n raw).length := by
  rw [frameM, rawW, coreM, rawW]
  simp only [List.length_append]
  omega
theorem firstJ_pre {n : Int} {b raw : List UInt8} (h : firstJ n b = some raw) : frameM n raw <+: b := by
  unfold firstJ at h
  split at h
  · cases h
  · split at h
    · cases h
    · split at h
      · rename_i hp
        cases h
        exact List.isPrefixOf_iff_prefix.1 hp
      · cases h
theorem firstJ_of {n : Int} (hn : -9223372036854775808 ≤ n ∧ n ≤ 9223372036854775807) {b raw : List UInt8} (hb : b.length < 18446744073709551616) (h : frameM n raw <+: b) : firstJ n b = some raw := by
  obtain ⟨t, ht⟩ := h
  have hl : (frameM n raw).length ≤ b.length := by rw [← ht]; simp
  have hc := frameM_core n raw
  have h1 : rdRaw (.ok b) = (coreM n raw, .ok (uvar (bytesB frameL (coreM n raw)).toNat ++ t)) := by
    rw [← ht, frameM, List.append_assoc]
    exact rdRaw_rawW _ _ (by omega)
  have h2 : rdI (.ok (coreM n raw)) = (n, .ok (rawW raw)) := by rw [coreM]; exact rdI_zvar n _ hn
  have h3 : rdRaw (.ok (rawW raw)) = (raw, .ok []) := by
    have := rdRaw_rawW raw [] (by omega)
    rwa [List.append_nil] at this
  unfold firstJ
  rw [h1]
  simp only [h2, h3]
  rw [if_pos (List.isPrefixOf_iff_prefix.2 ⟨t, ht⟩)]
theorem firstJ_none {n : Int} (hn : -9223372036854775808 ≤ n ∧ n ≤ 9223372036854775807) {b : List UInt8} (hb : b.length < 18446744073709551616) (h : firstJ n b = none) (raw : List UInt8) : ¬ frameM n raw <+: b := fun hp => by
  rw [firstJ_of hn hb hp] at h; cases h
theorem firstJ_eq {n : Int} (hn : -9223372036854775808 ≤ n ∧ n ≤ 9223372036854775807) {b : List UInt8} (hb : b.length < 18446744073709551616) {o : Option (List UInt8)} (h1 : ∀ raw, o = some raw → frameM n raw <+: b) (h2 : o = none → ∀ raw, ¬ frameM n raw <+: b) : o = firstJ n b := by
  cases o with
  | some raw => exact (firstJ_of hn hb (h1 raw rfl)).symm
  | none =>
    cases hf : firstJ n b with
    | none => rfl
    | some raw => exact absurd (firstJ_pre hf) (h2 rfl raw)

/-- The records of bytes from number k on, and how many bytes their frames take. -/
def scanJ : Nat → Nat → List UInt8 → List (List UInt8) × Nat
  | 0, _, _ => ([], 0)
  | f + 1, k, b =>
    match firstJ (k : Int) b with
    | none => ([], 0)
    | some raw => (raw :: (scanJ f (k + 1) (b.drop (frameM (k : Int) raw).length)).1, (frameM (k : Int) raw).length + (scanJ f (k + 1) (b.drop (frameM (k : Int) raw).length)).2)
def scanL (b : List UInt8) : List (List UInt8) × Nat := scanJ b.length 0 b
theorem scanJ_len (f k : Nat) (b : List UInt8) : (scanJ f k b).2 ≤ b.length ∧ (scanJ f k b).1.length ≤ (scanJ f k b).2 := by
  induction f generalizing k b with
  | zero => simp [scanJ]
  | succ f ih =>
    rw [scanJ]
    cases hf : firstJ (k : Int) b with
    | none => simp
    | some raw =>
      have hp := (firstJ_pre hf).length_le
      have h1 := frameM_pos (k : Int) raw
      have h2 := ih (k + 1) (b.drop (frameM (k : Int) raw).length)
      rw [List.length_drop] at h2
      simp only [List.length_cons]
      omega
theorem scanJ_fuel (f g k : Nat) (b : List UInt8) (hf : b.length ≤ f) (hg : b.length ≤ g) : scanJ f k b = scanJ g k b := by
  induction f generalizing g k b with
  | zero =>
    have : b = [] := List.eq_nil_of_length_eq_zero (by omega)
    subst this
    cases g with
    | zero => rfl
    | succ g =>
      rw [scanJ, scanJ]
      have : firstJ (k : Int) [] = none := by unfold firstJ; rfl
      rw [this]
  | succ f ih =>
    cases g with
    | zero =>
      have : b = [] := List.eq_nil_of_length_eq_zero (by omega)
      subst this
      rw [scanJ, scanJ]
      have : firstJ (k : Int) [] = none := by unfold firstJ; rfl
      rw [this]
    | succ g =>
      rw [scanJ, scanJ]
      cases hf : firstJ (k : Int) b with
      | none => rfl
      | some raw =>
        have h1 := frameM_pos (k : Int) raw
        have hp := (firstJ_pre hf).length_le
        simp only
        rw [ih g (k + 1) (b.drop (frameM (k : Int) raw).length) (by rw [List.length_drop]; omega) (by rw [List.length_drop]; omega)]
/-- The frames of records, from number k on. -/
def framesM : Nat → List (List UInt8) → List UInt8
  | _, [] => []
  | k, x :: xs => frameM (k : Int) x ++ framesM (k + 1) xs
theorem framesM_snoc (k : Nat) (xs : List (List UInt8)) (x : List UInt8) : framesM k (xs ++ [x]) = framesM k xs ++ frameM ((k + xs.length : Nat) : Int) x := by
  induction xs generalizing k with
  | nil => rw [List.nil_append, List.length_nil, Nat.add_zero, framesM, framesM, framesM, List.append_nil, List.nil_append]
  | cons y ys ih =>
    have e : k + 1 + ys.length = k + (ys.length + 1) := by omega
    rw [List.cons_append, framesM, framesM, ih, List.append_assoc, List.length_cons, e]
theorem scanJ_pre (f k : Nat) (b : List UInt8) : framesM k (scanJ f k b).1 = b.take (scanJ f k b).2 := by
  induction f generalizing k b with
  | zero => simp [scanJ, framesM]
  | succ f ih =>
    rw [scanJ]
    cases hf : firstJ (k : Int) b with
    | none => simp [framesM]
    | some raw =>
      obtain ⟨t, rfl⟩ := firstJ_pre hf
      simp only [framesM]
      rw [ih, List.drop_left, List.take_length_add_append]
/-- Frames, and what follows them, are read back. -/
theorem scanJ_frames (xs : List (List UInt8)) (k : Nat) (t : List UInt8) (f : Nat) (hf : (framesM k xs ++ t).length ≤ f) (hk : k + xs.length ≤ 9223372036854775807) (hl : f < 18446744073709551616) :
    scanJ f k (framesM k xs ++ t) = (xs ++ (scanJ t.length (k + xs.length) t).1, (framesM k xs).length + (scanJ t.length (k + xs.length) t).2) := by
  induction xs generalizing k f with
  | nil =>
    simp only [framesM, List.nil_append, List.length_nil, Nat.add_zero, Nat.zero_add] at hf ⊢
    exact scanJ_fuel f t.length k t hf (Nat.le_refl _)
  | cons x xs ih =>
    have h1 := frameM_pos (k : Int) x
    simp only [framesM, List.append_assoc, List.length_append, List.length_cons] at hf hk ⊢
    cases f with
    | zero => omega
    | succ f =>
      rw [scanJ, firstJ_of (n := (k : Int)) (raw := x) (by omega) (by simp only [List.length_append]; omega) ⟨_, rfl⟩]
      simp only
      rw [List.drop_left, ih (k + 1) f (by simp only [List.length_append]; omega) (by omega) (by omega), show k + 1 + xs.length = k + (xs.length + 1) from by omega]
      simp only [List.cons_append, Nat.add_assoc]
end Go.Proofs.YtpehnggglolnoaaGreat
