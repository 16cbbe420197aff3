/- The reader's plain law: what each read makes of a state, 'ok rest' or 'error e'. -/
import Derived.Test.YtpehnggglolnoaaWireM
namespace Go.Proofs.Ytpehnggglolnoaa
open Go.RowKit

abbrev RS := Except Int (List UInt8)

/-- The varint from octet i on. -/
def pU : Nat → List UInt8 → Except Int (Nat × List UInt8)
  | _, [] => .error 3
  | i, c :: cs =>
    if (i == 9 && decide (1 < c.toNat)) || (decide (0 < i) && c.toNat == 0) then .error 2
    else if c.toNat < 128 then .ok (c.toNat % 128, cs)
    else match pU (i + 1) cs with
      | .ok (v, r) => .ok (c.toNat % 128 + 128 * v, r)
      | .error e => .error e

/-- A read with its state thereafter. -/
def rdO : RS → UInt8 × RS
  | .ok [] => (0, .error 3)
  | .ok (c :: cs) => (c, .ok cs)
  | .error e => (0, .error e)
def ofP : Except Int (Nat × List UInt8) → Nat × RS
  | .ok (v, r) => (v, .ok r)
  | .error e => (0, .error e)
def rdU : RS → Nat × RS
  | .ok l => ofP (pU 0 l)
  | .error e => (0, .error e)
def back (z : Nat) : Int := if z % 2 = 1 then -((z / 2 : Nat) : Int) - 1 else ((z / 2 : Nat) : Int)
def rdI (s : RS) : Int × RS := (back (rdU s).1, (rdU s).2)
def rdB : RS → Bool × RS
  | .ok [] => (false, .error 3)
  | .ok (c :: cs) => if 1 < c.toNat then (false, .error 2) else (c.toNat == 1, .ok cs)
  | .error e => (false, .error e)
/-- The length of a list. -/
def rdL (s : RS) : Nat × RS :=
  match rdU s with
  | (_, .error e) => (0, .error e)
  | (n, .ok r) => if r.length < n then (0, .error 3) else (n, .ok r)
def rdRaw (s : RS) : List UInt8 × RS :=
  match rdL s with
  | (_, .error e) => ([], .error e)
  | (n, .ok r) => (r.take n, .ok (r.drop n))
/-- n integers. -/
def rdNs : Nat → RS → List Int × RS
  | 0, s => ([], s)
  | n + 1, s => ((rdI s).1 :: (rdNs n (rdI s).2).1, (rdNs n (rdI s).2).2)
def rdInts (s : RS) : List Int × RS :=
  match rdL s with
  | (_, .error e) => ([], .error e)
  | (n, .ok r) => match rdNs n (.ok r) with
    | (_, .error e) => ([], .error e)
    | (us, .ok r) => (us, .ok r)
def rdEnd : RS → Int
  | .ok [] => 0
  | .ok _ => 2
  | .error e => e

theorem pU_bound (i : Nat) (l : List UInt8) (hi : i ≤ 9) {v : Nat} {r : List UInt8} (h : pU i l = .ok (v, r)) : 128 ^ i * v < 18446744073709551616 := by
  induction l generalizing i v r with
  | nil => cases h
  | cons c cs ih =>
    rw [pU] at h
    split at h
    · cases h
    · rename_i hc
      simp only [Bool.or_eq_true, Bool.and_eq_true, beq_iff_eq, decide_eq_true_eq, not_or, not_and, Nat.not_lt] at hc
      split at h
      · cases h
        have hm := Nat.mod_lt c.toNat (y := 128) (by omega)
        have : i = 0 ∨ i = 1 ∨ i = 2 ∨ i = 3 ∨ i = 4 ∨ i = 5 ∨ i = 6 ∨ i = 7 ∨ i = 8 ∨ i = 9 := by omega
        rcases this with rfl | rfl | rfl | rfl | rfl | rfl | rfl | rfl | rfl | rfl <;> first | omega | (have := hc.1 rfl; omega)
      · rename_i hc128
        have hi9 : i ≠ 9 := fun e => by have := hc.1 e; omega
        split at h
        · rename_i v' r' hp
          cases h
          have := ih (i + 1) (by omega) hp
          have hm := Nat.mod_lt c.toNat (y := 128) (by omega)
          have : i = 0 ∨ i = 1 ∨ i = 2 ∨ i = 3 ∨ i = 4 ∨ i = 5 ∨ i = 6 ∨ i = 7 ∨ i = 8 := by omega
          rcases this with rfl | rfl | rfl | rfl | rfl | rfl | rfl | rfl | rfl <;> simp only [Nat.reducePow, Nat.reduceAdd] at * <;> omega
        · cases h

theorem back_bound (z : Nat) (h : z < 18446744073709551616) : -9223372036854775808 ≤ back z ∧ back z ≤ 9223372036854775807 := by
  rw [back]; split <;> omega
theorem back_zz (n : Int) : back (zz n) = n := by
  rw [back, zz]; split <;> split <;> omega

/-- What the loop of Uint holds: the answer of the whole is n and the rest's answer. -/
def uInv (l : List UInt8) (i n : Nat) (m : List UInt8) : Prop :=
  rdU (.ok l) = match pU i m with
    | .ok (v, r) => (n + 128 ^ i * v, .ok r)
    | .error e => (0, .error e)

theorem uInv_start (l : List UInt8) : uInv l 0 0 l := by
  rw [uInv, rdU]
  rcases pU 0 l with e | ⟨v, r⟩ <;> simp [ofP]
theorem uInv_nil {l : List UInt8} {i n : Nat} (h : uInv l i n []) : rdU (.ok l) = (0, .error 3) := h
theorem uInv_form {l cs : List UInt8} {i n : Nat} {c : UInt8} (h : uInv l i n (c :: cs)) (hf : (i = 9 ∧ 1 < c.toNat) ∨ (0 < i ∧ c.toNat = 0)) : rdU (.ok l) = (0, .error 2) := by
  rw [uInv, pU, if_pos (by simpa using hf)] at h
  exact h
theorem uInv_done {l cs : List UInt8} {i n : Nat} {c : UInt8} (h : uInv l i n (c :: cs)) (hf : ¬ ((i = 9 ∧ 1 < c.toNat) ∨ (0 < i ∧ c.toNat = 0))) (hc : c.toNat < 128) :
    rdU (.ok l) = (n + 128 ^ i * (c.toNat % 128), .ok cs) := by
  rw [uInv, pU, if_neg (by simpa using hf), if_pos hc] at h
  exact h
theorem uInv_step {l cs : List UInt8} {i n : Nat} {c : UInt8} (h : uInv l i n (c :: cs)) (hf : ¬ ((i = 9 ∧ 1 < c.toNat) ∨ (0 < i ∧ c.toNat = 0))) (hc : ¬ c.toNat < 128) :
    uInv l (i + 1) (n + 128 ^ i * (c.toNat % 128)) cs := by
  rw [uInv, pU, if_neg (by simpa using hf), if_neg hc] at h
  rw [uInv, h]
  rcases pU (i + 1) cs with e | ⟨v, r⟩
  · rfl
  · simp only [Nat.pow_succ, Nat.mul_add, Nat.add_assoc, Nat.mul_assoc]

theorem shl_step (i n : Nat) (c : UInt8) (hi : i ≤ 9) (hn : n < 128 ^ i) (hc : i = 9 → c.toNat ≤ 1) :
    bits BinOp.or IntKind.u64 (n : Int) (IntKind.u64.wrap (IntKind.u64.wrap (bits BinOp.and IntKind.u8 (c.toNat : Int) 127) * 2 ^ (7 * i))) = ((n + 128 ^ i * (c.toNat % 128) : Nat) : Int) := by
  have h1 : bits BinOp.and IntKind.u8 (c.toNat : Int) 127 = ((c.toNat % 128 : Nat) : Int) := by
    have e := Nat.and_two_pow_sub_one_eq_mod c.toNat 7
    have hlt := c.toNat_lt
    have := u8_and_nat c.toNat 127 (by omega) (by omega)
    rw [show (127 : Nat) = 2 ^ 7 - 1 from rfl, e] at this
    exact this
  have hm := Nat.mod_lt c.toNat (y := 128) (by omega)
  have hp : (2 : Int) ^ (7 * i) = ((128 ^ i : Nat) : Int) := by rw [show (128 : Nat) ^ i = 2 ^ (7 * i) from by rw [Nat.pow_mul], Int.natCast_pow]; rfl
  have hb : 128 ^ i * (c.toNat % 128) < 18446744073709551616 := by
    have : i = 0 ∨ i = 1 ∨ i = 2 ∨ i = 3 ∨ i = 4 ∨ i = 5 ∨ i = 6 ∨ i = 7 ∨ i = 8 ∨ i = 9 := by omega
    rcases this with rfl | rfl | rfl | rfl | rfl | rfl | rfl | rfl | rfl | rfl <;> simp only [Nat.reducePow] <;> first | omega | (have := hc rfl; omega)
  have hn' : n < 18446744073709551616 := Nat.lt_of_lt_of_le hn (Nat.le_trans (Nat.pow_le_pow_right (by omega) hi) (by decide))
  rw [h1, hp, IntKind.wrap_u64, IntKind.wrap_u64]
  have e2 : ((c.toNat % 128 : Nat) : Int) % 18446744073709551616 = ((c.toNat % 128 : Nat) : Int) := by omega
  rw [e2, show ((c.toNat % 128 : Nat) : Int) * ((128 ^ i : Nat) : Int) = ((128 ^ i * (c.toNat % 128) : Nat) : Int) from by rw [Nat.mul_comm]; rfl]
  generalize hx : 128 ^ i * (c.toNat % 128) = x at *
  rw [show ((x : Nat) : Int) % 18446744073709551616 = (x : Int) from by omega, bits_or_u64_nat _ _ hn' hb]
  congr 1
  have e3 : (128 : Nat) ^ i = 2 ^ (7 * i) := by rw [Nat.pow_mul]
  rw [← hx, e3, Nat.add_comm, Nat.two_pow_add_eq_or_of_lt (by rw [← e3]; exact hn), Nat.or_comm]
theorem step_lt (i n m : Nat) (hn : n < 128 ^ i) : n + 128 ^ i * (m % 128) < 128 ^ (i + 1) := by
  have hm := Nat.mod_lt m (y := 128) (by omega)
  have : 128 ^ i * (m % 128) ≤ 128 ^ i * 127 := Nat.mul_le_mul_left _ (by omega)
  rw [Nat.pow_succ]; omega

theorem rdU_bound (s : RS) : (rdU s).1 < 18446744073709551616 := by
  rcases s with e | l
  · exact (by decide : 0 < 18446744073709551616)
  · rw [rdU]
    rcases hp : pU 0 l with e | ⟨v, r⟩
    · exact (by decide : 0 < 18446744073709551616)
    · have := pU_bound 0 l (by omega) hp
      simpa [ofP] using this

theorem back_bits (n : Nat) (hn : n < 18446744073709551616) :
    bits BinOp.xor IntKind.i64 (wrap64 ((n : Int) / 2)) (wrap64 (-wrap64 (bits BinOp.and IntKind.u64 (n : Int) 1))) = back n := by
  have h1 : bits BinOp.and IntKind.u64 (n : Int) 1 = ((n % 2 : Nat) : Int) := by
    have := bits_and_u64_nat n 1 hn (by omega)
    rw [Nat.and_one_is_mod] at this
    exact this
  have h2 : wrap64 ((n : Int) / 2) = ((n / 2 : Nat) : Int) := by unfold wrap64; omega
  rw [h1, h2, back]
  have hx : ∀ a : Nat, a < 9223372036854775808 → (BitVec.ofInt 64 (a : Int)).toNat = a := by
    intro a ha
    rw [BitVec.ofInt_natCast, BitVec.toNat_ofNat]; exact Nat.mod_eq_of_lt (by omega)
  by_cases ho : n % 2 = 1
  · rw [if_pos ho, ho, show wrap64 (-wrap64 ((1 : Nat) : Int)) = -1 from by unfold wrap64; omega]
    show IntKind.i64.wrap ((BitVec.ofInt 64 ((n / 2 : Nat) : Int) ^^^ BitVec.ofInt 64 (-1)).toNat : Int) = _
    have e1 : BitVec.ofInt 64 (-1) = BitVec.allOnes 64 := by decide
    rw [e1, BitVec.xor_comm, ← BitVec.not_def, BitVec.toNat_not, hx _ (by omega)]
    simp [IntKind.wrap, IntKind.bits, IntKind.signed]
    omega
  · rw [if_neg ho, show n % 2 = 0 from by omega, show wrap64 (-wrap64 ((0 : Nat) : Int)) = 0 from by unfold wrap64; omega]
    show IntKind.i64.wrap ((BitVec.ofInt 64 ((n / 2 : Nat) : Int) ^^^ BitVec.ofInt 64 0).toNat : Int) = _
    have e1 : BitVec.ofInt 64 0 = 0#64 := by decide
    rw [e1, BitVec.xor_zero, hx _ (by omega)]
    simp [IntKind.wrap, IntKind.bits, IntKind.signed]
    omega

theorem toNat_ofNat_lt (n : Nat) (h : n < 256) : (UInt8.ofNat n).toNat = n := by rw [UInt8.toNat_ofNat']; omega

/-- The round trip of a varint. -/
theorem pU_uvarF (f i n : Nat) (rest : List UInt8) (hf : n < 128 ^ f) (hf0 : 0 < f) (h : i = 0 ∨ 0 < n) (h2 : 128 ^ i * n < 18446744073709551616) :
    pU i (uvarF f n ++ rest) = .ok (n, rest) := by
  induction f generalizing i n with
  | zero => omega
  | succ f ih =>
    have h9 : i = 9 → n ≤ 1 := by rintro rfl; simp only [Nat.reducePow] at h2; omega
    rw [uvarF]
    by_cases hn : n < 128
    · rw [if_pos hn]
      show pU i (UInt8.ofNat n :: rest) = _
      rw [pU, toNat_ofNat_lt n (by omega), if_neg, if_pos hn, Nat.mod_eq_of_lt hn]
      simp only [Bool.or_eq_true, Bool.and_eq_true, beq_iff_eq, decide_eq_true_eq]
      omega
    · rw [if_neg hn]
      show pU i (UInt8.ofNat (128 + n % 128) :: (uvarF f (n / 128) ++ rest)) = _
      have hd : 128 ^ i * (128 * (n / 128)) ≤ 128 ^ i * n := Nat.mul_le_mul_left _ (Nat.mul_div_le n 128)
      have hf' : n / 128 < 128 ^ f := by rw [Nat.div_lt_iff_lt_mul (by omega)]; rw [Nat.pow_succ] at hf; exact hf
      have hf1 : 0 < f := by
        rcases Nat.eq_zero_or_pos f with rfl | h'
        · simp only [Nat.pow_zero] at hf'; omega
        · exact h'
      rw [pU, toNat_ofNat_lt _ (by omega), if_neg, if_neg (by omega), ih (i + 1) (n / 128) hf' hf1 (.inr (by omega)) (by rw [Nat.pow_succ, Nat.mul_assoc]; omega)]
      · show Except.ok (_, rest) = _
        congr 2
        omega
      · simp only [Bool.or_eq_true, Bool.and_eq_true, beq_iff_eq, decide_eq_true_eq]
        omega
theorem rdU_uvar (n : Nat) (rest : List UInt8) (h : n < 18446744073709551616) : rdU (.ok (uvar n ++ rest)) = (n, .ok rest) := by
  rw [rdU, uvar, pU_uvarF 10 0 n rest (Nat.lt_of_lt_of_le h (by decide)) (by omega) (.inl rfl) (by omega)]
  rfl
theorem uvar_inj {m n : Nat} (hm : m < 18446744073709551616) (hn : n < 18446744073709551616) (h : uvar m = uvar n) : m = n := by
  have h1 := rdU_uvar m [] hm
  have h2 := rdU_uvar n [] hn
  rw [h, h2] at h1
  exact (congrArg Prod.fst h1).symm
theorem zz_lt (n : Int) (h : -9223372036854775808 ≤ n ∧ n ≤ 9223372036854775807) : zz n < 18446744073709551616 := by
  rw [zz]; split <;> omega
theorem rdI_zvar (n : Int) (rest : List UInt8) (h : -9223372036854775808 ≤ n ∧ n ≤ 9223372036854775807) : rdI (.ok (zvar n ++ rest)) = (n, .ok rest) := by
  rw [rdI, zvar, rdU_uvar _ _ (zz_lt n h), back_zz]
theorem uvarF_len8 (f n : Nat) (h : n < 128 ^ f) (g : Nat) (hf : 0 < f) : (uvarF g n).length ≤ f := by
  induction f generalizing n g with
  | zero => omega
  | succ f ih =>
    cases g with
    | zero => simp [uvarF]
    | succ g =>
      rw [uvarF]
      by_cases hn : n < 128
      · rw [if_pos hn]; simp
      · rw [if_neg hn, List.length_cons]
        have h' : n / 128 < 128 ^ f := by rw [Nat.div_lt_iff_lt_mul (by omega)]; rw [Nat.pow_succ] at h; exact h
        rcases Nat.eq_zero_or_pos f with rfl | h0
        · simp only [Nat.pow_zero] at h'; omega
        · have := ih (n / 128) h' g h0; omega
theorem uvar_len8 (n : Nat) (h : n < 72057594037927936) : (uvar n).length ≤ 8 := uvarF_len8 8 n (by simpa using h) 10 (by omega)
end Go.Proofs.Ytpehnggglolnoaa
