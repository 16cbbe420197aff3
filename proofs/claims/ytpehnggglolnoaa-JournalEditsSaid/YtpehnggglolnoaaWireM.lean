/- The plain functions of the wire format: varints, zigzag. -/
import Derived.WalkKit
namespace Go.Proofs.Ytpehnggglolnoaa

/-- The varint of a number (with fuel; ten bytes serve every number of 64 bits). -/
def uvarF : Nat → Nat → List UInt8
  | 0, _ => []
  | f + 1, n => if n < 128 then [UInt8.ofNat n] else UInt8.ofNat (128 + n % 128) :: uvarF f (n / 128)
def uvar (n : Nat) : List UInt8 := uvarF 10 n

theorem uvarF_succ (f n : Nat) (h : n < 128 ^ (f + 1)) : uvarF (f + 2) n = uvarF (f + 1) n := by
  induction f generalizing n with
  | zero =>
    have : n < 128 := by simpa using h
    simp [uvarF, this]
  | succ f ih =>
    show (if n < 128 then [UInt8.ofNat n] else UInt8.ofNat (128 + n % 128) :: uvarF (f + 2) (n / 128)) = (if n < 128 then [UInt8.ofNat n] else UInt8.ofNat (128 + n % 128) :: uvarF (f + 1) (n / 128))
    rw [ih (n / 128) (by rw [Nat.div_lt_iff_lt_mul (by omega)]; rw [Nat.pow_succ] at h; exact h)]
theorem uvar_small {n : Nat} (h : n < 128) : uvar n = [UInt8.ofNat n] := by simp [uvar, uvarF, h]
theorem uvar_step {n : Nat} (h : 128 ≤ n) (h2 : n < 18446744073709551616) : uvar n = UInt8.ofNat (128 + n % 128) :: uvar (n / 128) := by
  have h3 : ¬ n < 128 := by omega
  have h4 : uvarF 10 (n / 128) = uvarF 9 (n / 128) := uvarF_succ 8 (n / 128) (by omega)
  rw [uvar, uvar, h4]
  show (if n < 128 then _ else _) = _
  rw [if_neg h3]
theorem uvarF_len (f n : Nat) : (uvarF f n).length ≤ f := by
  induction f generalizing n with
  | zero => simp [uvarF]
  | succ f ih =>
    rw [uvarF]
    split
    · simp
    · have := ih (n / 128); simp; omega
theorem uvar_len (n : Nat) : (uvar n).length ≤ 10 := uvarF_len 10 n
theorem uvar_pos (n : Nat) : 1 ≤ (uvar n).length := by
  rw [uvar, uvarF]
  split <;> simp

/-- The zigzag form. -/
def zz (n : Int) : Nat := if n < 0 then (-(n + 1)).toNat * 2 + 1 else n.toNat * 2
def zvar (n : Int) : List UInt8 := uvar (zz n)
end Go.Proofs.Ytpehnggglolnoaa
