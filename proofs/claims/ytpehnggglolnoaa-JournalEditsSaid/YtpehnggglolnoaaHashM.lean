/- The plain functions of the hash: words of bytes, mixing, sums; and that mixing is injective in either argument. -/
import Derived.WalkKit
namespace Go.Proofs.Ytpehnggglolnoaa
open Go.RowKit

/-- Little-endian number of bytes. -/
def leN : List UInt8 → Nat
  | [] => 0
  | b :: l => b.toNat + 256 * leN l

/-- The words of bytes: groups of 8. -/
def nWords (l : List UInt8) : Nat := (l.length + 7) / 8
def wordAt (l : List UInt8) (i : Nat) : BitVec 64 := BitVec.ofNat 64 (leN ((l.drop (8 * i)).take 8))
def words (l : List UInt8) : List (BitVec 64) := (List.range (nWords l)).map (wordAt l)
def wordsTo (l : List UInt8) (k : Nat) : List (BitVec 64) := (List.range k).map (wordAt l)

theorem wordsTo_succ (l : List UInt8) (k : Nat) : wordsTo l (k + 1) = wordsTo l k ++ [wordAt l k] := by simp [wordsTo, List.range_succ]
theorem wordsTo_length (l : List UInt8) (k : Nat) : (wordsTo l k).length = k := by simp [wordsTo]
theorem words_length (l : List UInt8) : (words l).length = nWords l := by simp [words]

def mulB : BitVec 64 := 11400714819323198485#64
def mixB (s x : BitVec 64) : BitVec 64 := ((s ^^^ x) * mulB) ^^^ (((s ^^^ x) * mulB) >>> 32)
def mixI (a b : Int) : Int := ((mixB (BitVec.ofInt 64 a) (BitVec.ofInt 64 b)).toNat : Int)
def absorb (s : BitVec 64) (ws : List (BitVec 64)) : BitVec 64 := ws.foldl mixB s
def sumB (label : List UInt8) (xs : List (BitVec 64)) : BitVec 64 :=
  mixB (absorb (mixB (mixB (absorb 0#64 (words label)) (BitVec.ofNat 64 label.length)) (BitVec.ofNat 64 xs.length)) xs) 0#64
/-- Sum over ints. -/
def sumI (label : List UInt8) (xs : List Int) : BitVec 64 := sumB label (xs.map (BitVec.ofInt 64))
def bytesB (label b : List UInt8) : BitVec 64 := sumB label (words b ++ [BitVec.ofNat 64 b.length])

theorem absorb_snoc (s : BitVec 64) (ws : List (BitVec 64)) (x : BitVec 64) : absorb s (ws ++ [x]) = mixB (absorb s ws) x := by simp [absorb]

theorem ofInt_toNat (x : BitVec 64) : BitVec.ofInt 64 (x.toNat : Int) = x := by
  apply BitVec.eq_of_toNat_eq
  simp
theorem ofInt_natCast (n : Nat) : BitVec.ofInt 64 (n : Int) = BitVec.ofNat 64 n := by
  apply BitVec.eq_of_toNat_eq
  simp

theorem mixI_toNat (a b : BitVec 64) : mixI a.toNat b.toNat = ((mixB a b).toNat : Int) := by rw [mixI, ofInt_toNat, ofInt_toNat]
theorem mixI_left (a : BitVec 64) (b : Int) : mixI a.toNat b = ((mixB a (BitVec.ofInt 64 b)).toNat : Int) := by rw [mixI, ofInt_toNat]

theorem ofInt_wrapU (x : Int) : BitVec.ofInt 64 (IntKind.u64.wrap x) = BitVec.ofInt 64 x := by
  apply BitVec.eq_of_toNat_eq
  simp only [IntKind.wrap_u64, BitVec.toNat_ofInt]
  omega
theorem ofInt_wrapI (x : Int) : BitVec.ofInt 64 (IntKind.i64.wrap x) = BitVec.ofInt 64 x := by
  apply BitVec.eq_of_toNat_eq
  simp only [IntKind.wrap, IntKind.bits, IntKind.signed, BitVec.toNat_ofInt]
  simp only [Bool.true_and]
  split <;> omega
theorem mixI_wrap (a b : Int) : mixI a (IntKind.u64.wrap b) = mixI a b := by rw [mixI, ofInt_wrapU]; rfl

theorem absorb_take (h : BitVec 64) {xs : List Int} {k : Nat} {x : Int} (hx : xs[k]? = some x) :
    absorb h ((xs.map (BitVec.ofInt 64)).take (k + 1)) = mixB (absorb h ((xs.map (BitVec.ofInt 64)).take k)) (BitVec.ofInt 64 x) := by
  rw [List.take_add_one, List.getElem?_map, hx, Option.map_some, Option.toList_some, absorb_snoc]

/-- A word as an int. -/
def toI (x : BitVec 64) : Int := wrap64 (x.toNat : Int)
theorem ofInt_toI (x : BitVec 64) : BitVec.ofInt 64 (toI x) = x := by rw [toI, ← IntWalk.i64_left, ofInt_wrapI, ofInt_toNat]
theorem sumI_toI (L : List UInt8) (ws : List (BitVec 64)) (n : Nat) : sumI L (ws.map toI ++ [(n : Int)]) = sumB L (ws ++ [BitVec.ofNat 64 n]) := by
  rw [sumI, List.map_append, List.map_map, show (BitVec.ofInt 64 ∘ toI) = id from funext ofInt_toI, List.map_id, List.map_singleton, ofInt_natCast]

/-- The state before the elements are absorbed. -/
def headB (L : List UInt8) (n : Nat) : BitVec 64 := mixB (mixB (absorb 0#64 (words L)) (BitVec.ofNat 64 L.length)) (BitVec.ofNat 64 n)
theorem headB_val (L : List UInt8) (m n : Nat) (hm : m = L.length) : mixI (mixI ((absorb 0#64 (wordsTo L (nWords L))).toNat : Int) (m : Int)) (n : Int) = ((headB L n).toNat : Int) := by
  subst hm
  rw [mixI_left, mixI_left, ofInt_natCast, ofInt_natCast]
  rfl
theorem sumI_val (L : List UInt8) (xs : List Int) : mixI ((absorb (headB L xs.length) (xs.map (BitVec.ofInt 64))).toNat : Int) 0 = ((sumI L xs).toNat : Int) := by
  rw [mixI_left, sumI, sumB, List.length_map]
  rfl

/- Injectivity. -/
theorem shift_xor_inj {a b : BitVec 64} (h : a ^^^ (a >>> 32) = b ^^^ (b >>> 32)) : a = b := by
  have key : ∀ x : BitVec 64, (x ^^^ (x >>> 32)) ^^^ ((x ^^^ (x >>> 32)) >>> 32) = x := by
    intro x
    rw [BitVec.ushiftRight_xor_distrib, ← BitVec.shiftRight_add]
    have hz : x >>> (32 + 32) = 0#64 := by
      apply BitVec.eq_of_toNat_eq
      simp [Nat.shiftRight_eq_div_pow]
      omega
    rw [hz, BitVec.xor_zero, BitVec.xor_assoc, BitVec.xor_self, BitVec.xor_zero]
  rw [← key a, ← key b, h]

def invB : BitVec 64 := 17428512612931826493#64
theorem mul_inv : mulB * invB = 1#64 := by decide +kernel
theorem mul_inj {a b : BitVec 64} (h : a * mulB = b * mulB) : a = b := by
  have := congrArg (· * invB) h
  simpa [BitVec.mul_assoc, mul_inv] using this
theorem xor_inj_left {a b x : BitVec 64} (h : a ^^^ x = b ^^^ x) : a = b := by
  have := congrArg (· ^^^ x) h
  simpa [BitVec.xor_assoc] using this
theorem xor_inj_right {a x y : BitVec 64} (h : a ^^^ x = a ^^^ y) : x = y := by
  rw [BitVec.xor_comm a x, BitVec.xor_comm a y] at h; exact xor_inj_left h
theorem mixB_inj_left {a b x : BitVec 64} (h : mixB a x = mixB b x) : a = b := xor_inj_left (mul_inj (shift_xor_inj h))
theorem mixB_inj_right {a x y : BitVec 64} (h : mixB a x = mixB a y) : x = y := xor_inj_right (mul_inj (shift_xor_inj h))
theorem absorb_inj {a b : BitVec 64} {ws : List (BitVec 64)} (h : absorb a ws = absorb b ws) : a = b := by
  induction ws generalizing a b with
  | nil => exact h
  | cons x ws ih => exact mixB_inj_left (ih h)
theorem absorb_append (s : BitVec 64) (us vs : List (BitVec 64)) : absorb s (us ++ vs) = absorb (absorb s us) vs := by simp [absorb]

/-- Sums of lists that differ in exactly one place differ. -/
theorem sumB_one {label : List UInt8} {us vs : List (BitVec 64)} {x y : BitVec 64} (h : sumB label (us ++ x :: vs) = sumB label (us ++ y :: vs)) : x = y := by
  unfold sumB at h
  have h1 := mixB_inj_left h
  simp only [List.length_append, List.length_cons] at h1
  rw [absorb_append, absorb_append] at h1
  exact mixB_inj_right (absorb_inj (ws := vs) h1)

theorem toNat_ne {x y : BitVec 64} (h : x ≠ y) : ((x.toNat : Int) == (y.toNat : Int)) = false := by
  simp only [beq_eq_false_iff_ne, ne_eq]
  intro e
  exact h (BitVec.eq_of_toNat_eq (by omega))
theorem toNat_eq' {x y : BitVec 64} (h : x = y) : ((x.toNat : Int) == (y.toNat : Int)) = true := by simp [h]
theorem pair_ne_left {L : List UInt8} {a b c : BitVec 64} (h : a ≠ b) : sumB L [a, c] ≠ sumB L [b, c] := fun e => h (sumB_one (us := []) (vs := [c]) e)
theorem pair_ne_right {L : List UInt8} {a b c : BitVec 64} (h : a ≠ b) : sumB L [c, a] ≠ sumB L [c, b] := fun e => h (sumB_one (us := [c]) (vs := []) e)
theorem intU {a : Int} (h : (Lit.int .u64 a).wf = true) : Value.int .u64 a = .int .u64 ((BitVec.ofInt 64 a).toNat : Int) := by
  simp only [Lit.wf, IntKind.min, IntKind.max, IntKind.signed, IntKind.bits, Bool.and_eq_true] at h
  simp at h
  congr 1
  simp only [BitVec.toNat_ofInt]
  omega

theorem set_self {α : Type} {us : List α} {k : Nat} {x : α} (hx : us[k]? = some x) : us.set k x = us := by
  apply List.ext_getElem?
  intro j
  rw [List.getElem?_set]
  split
  · rename_i h; subst h
    split
    · exact hx.symm
    · rename_i h; rw [List.getElem?_eq_none (by omega)]
  · rfl
theorem set_split {α : Type} {us : List α} {k : Nat} {x : α} (hx : us[k]? = some x) (y : α) : us = us.take k ++ x :: us.drop (k + 1) ∧ us.set k y = us.take k ++ y :: us.drop (k + 1) := by
  obtain ⟨hk, hget⟩ := List.getElem?_eq_some_iff.1 hx
  refine ⟨?_, ?_⟩
  · conv => lhs; rw [← List.take_append_drop k us]
    rw [List.drop_eq_getElem_cons hk, hget]
  · rw [List.set_eq_take_append_cons_drop, if_pos hk]
/-- Replacing one word by another one changes the sum. -/
theorem sumI_set_ne {L : List UInt8} {us : List Int} {k : Nat} {x y : Int} (hx : us[k]? = some x) (hne : BitVec.ofInt 64 x ≠ BitVec.ofInt 64 y) : sumI L us ≠ sumI L (us.set k y) := by
  intro h
  obtain ⟨h1, h2⟩ := set_split hx y
  rw [h2] at h
  conv at h => lhs; rw [h1]
  rw [sumI, sumI, List.map_append, List.map_append, List.map_cons, List.map_cons] at h
  exact hne (sumB_one h)
theorem ofInt_inj {x y : Int} (hx : -9223372036854775808 ≤ x ∧ x ≤ 9223372036854775807) (hy : -9223372036854775808 ≤ y ∧ y ≤ 9223372036854775807) (h : BitVec.ofInt 64 x = BitVec.ofInt 64 y) : x = y := by
  have := congrArg BitVec.toNat h
  simp only [BitVec.toNat_ofInt] at this
  omega

theorem sumI_bytes (L bs : List UInt8) : sumI L ((words bs).map toI ++ [(bs.length : Int)]) = bytesB L bs := sumI_toI L (words bs) bs.length
theorem leN_snoc_zero (l : List UInt8) : leN (l ++ [0]) = leN l := by
  induction l with
  | nil => rfl
  | cons b l ih => rw [List.cons_append, leN, leN, ih]
theorem words_snoc_zero {bs : List UInt8} (h : bs.length % 8 ≠ 0) : words (bs ++ [0]) = words bs := by
  have hn : nWords (bs ++ [0]) = nWords bs := by unfold nWords; rw [List.length_append, List.length_singleton]; omega
  rw [words, words, hn]
  apply List.map_congr_left
  intro i hi
  have hi' : i < nWords bs := List.mem_range.1 hi
  have h8 : 8 * i ≤ bs.length := by unfold nWords at hi'; omega
  rw [wordAt, wordAt, List.drop_append_of_le_length h8]
  congr 1
  by_cases hc : 8 ≤ (bs.drop (8 * i)).length
  · rw [List.take_append_of_le_length hc]
  · rw [List.take_of_length_le (by rw [List.length_append, List.length_singleton]; omega), List.take_of_length_le (by omega), leN_snoc_zero]
theorem ofNat_ne {m n : Nat} (h : m ≠ n) (hm : m < 18446744073709551616) (hn : n < 18446744073709551616) : BitVec.ofNat 64 m ≠ BitVec.ofNat 64 n := by
  intro e
  have := congrArg BitVec.toNat e
  simp only [BitVec.toNat_ofNat] at this
  omega
theorem bytesB_snoc_zero {L bs : List UInt8} (h : bs.length % 8 ≠ 0) (hl : bs.length < 1000000) : bytesB L (bs ++ [0]) ≠ bytesB L bs := by
  intro e
  rw [bytesB, bytesB, words_snoc_zero h, List.length_append, List.length_singleton] at e
  exact ofNat_ne (by omega) (by omega) (by omega) (sumB_one (vs := []) e)

theorem leN_inj {a b : List UInt8} (hl : a.length = b.length) (h : leN a = leN b) : a = b := by
  induction a generalizing b with
  | nil => exact (List.eq_nil_of_length_eq_zero (by simpa using hl.symm)).symm
  | cons x a ih =>
    cases b with
    | nil => simp at hl
    | cons y b =>
      simp only [leN] at h
      have hx := x.toNat_lt
      have hy := y.toNat_lt
      have h1 : x.toNat = y.toNat := by omega
      have h2 : leN a = leN b := by omega
      rw [UInt8.toNat_inj.1 h1, ih (by simpa using hl) h2]
theorem leN_lt' (l : List UInt8) : leN l < 256 ^ l.length := by
  induction l with
  | nil => simp [leN]
  | cons b l ih =>
    have := b.toNat_lt
    simp only [leN, List.length_cons, Nat.pow_succ]
    omega
theorem wordAt_inj {a b : List UInt8} {i : Nat} (hl : a.length = b.length) (h : wordAt a i = wordAt b i) : (a.drop (8 * i)).take 8 = (b.drop (8 * i)).take 8 := by
  have hs : ∀ l : List UInt8, leN ((l.drop (8 * i)).take 8) < 18446744073709551616 := fun l =>
    Nat.lt_of_lt_of_le (leN_lt' _) (Nat.le_trans (Nat.pow_le_pow_right (by omega) (show ((l.drop (8 * i)).take 8).length ≤ 8 by simp; omega)) (by decide))
  apply leN_inj (by simp [hl])
  have := congrArg BitVec.toNat h
  simp only [wordAt, BitVec.toNat_ofNat] at this
  rw [Nat.mod_eq_of_lt (hs a), Nat.mod_eq_of_lt (hs b)] at this
  exact this
/-- Bytes that differ within one group of eight alone. -/
theorem words_set {a b : List UInt8} {i : Nat} (hl : a.length = b.length) (hd : ∀ j, j / 8 ≠ i → a[j]? = b[j]?) : words b = (words a).set i (wordAt b i) := by
  have hn : nWords b = nWords a := by unfold nWords; rw [hl]
  apply List.ext_getElem?
  intro j
  rw [words, words, hn, List.getElem?_set]
  by_cases hj : j < nWords a
  · by_cases h : i = j
    · subst h
      simp [hj]
    · rw [if_neg h]
      simp only [List.getElem?_map, List.getElem?_range hj, Option.map_some]
      congr 1
      unfold wordAt
      congr 2
      apply List.ext_getElem?
      intro q
      rw [List.getElem?_take, List.getElem?_take]
      split
      · rw [List.getElem?_drop, List.getElem?_drop, hd _ (by omega)]
      · rfl
  · have h1 : ((List.range (nWords a)).map (wordAt b))[j]? = none := List.getElem?_eq_none (by simp; omega)
    have h2 : ((List.range (nWords a)).map (wordAt a))[j]? = none := List.getElem?_eq_none (by simp; omega)
    rw [h1]
    split
    · rw [if_neg (by simp; omega)]
    · exact h2.symm
theorem group_eq {a b : List UInt8} {i : Nat} (hl : a.length = b.length) (hd : ∀ j, j / 8 ≠ i → a[j]? = b[j]?) (h : wordAt a i = wordAt b i) : a = b := by
  have hw := wordAt_inj hl h
  apply List.ext_getElem?
  intro j
  by_cases hj : j / 8 = i
  · have := congrArg (fun l => l[j % 8]?) hw
    simp only [List.getElem?_take, List.getElem?_drop, if_pos (Nat.mod_lt j (by omega : 0 < 8))] at this
    rwa [show 8 * i + j % 8 = j from by omega] at this
  · exact hd j hj
theorem one_word {L : List UInt8} {us vs tl : List (BitVec 64)} {i : Nat} {x y : BitVec 64} (hx : us[i]? = some x) (hv : vs = us.set i y) (h : sumB L (us ++ tl) = sumB L (vs ++ tl)) : x = y := by
  obtain ⟨h1, h2⟩ := set_split hx y
  rw [hv, h2] at h
  conv at h => lhs; rw [h1]
  rw [List.append_assoc, List.append_assoc, List.cons_append, List.cons_append] at h
  exact sumB_one h
theorem group_ne {L a b : List UInt8} {i : Nat} (hl : a.length = b.length) (hd : ∀ j, j / 8 ≠ i → a[j]? = b[j]?) (hne : a ≠ b) : bytesB L a ≠ bytesB L b := by
  intro h
  have hi : i < nWords a := by
    by_cases hi : i < nWords a
    · exact hi
    · exfalso
      apply hne
      apply List.ext_getElem?
      intro j
      by_cases hj : j / 8 = i
      · unfold nWords at hi
        rw [List.getElem?_eq_none (by omega), List.getElem?_eq_none (by omega)]
      · exact hd j hj
  rw [bytesB, bytesB, ← hl] at h
  exact hne (group_eq hl hd (one_word (x := wordAt a i) (by simp [words, hi]) (words_set hl hd) h))
theorem xor_u8 (a b : UInt8) : bits BinOp.xor IntKind.u8 (a.toNat : Int) (b.toNat : Int) = ((a ^^^ b).toNat : Int) := by
  rw [u8_xor_nat _ _ a.toNat_lt b.toNat_lt, UInt8.toNat_xor]

theorem label_ne {a b : List UInt8} {xs : List (BitVec 64)} {i : Nat} (hl : a.length = b.length) (hd : ∀ j, j / 8 ≠ i → a[j]? = b[j]?) (hne : a ≠ b) : sumB a xs ≠ sumB b xs := by
  intro h
  have hi : i < nWords a := by
    by_cases hi : i < nWords a
    · exact hi
    · exfalso
      apply hne
      apply List.ext_getElem?
      intro j
      by_cases hj : j / 8 = i
      · unfold nWords at hi
        rw [List.getElem?_eq_none (by omega), List.getElem?_eq_none (by omega)]
      · exact hd j hj
  unfold sumB at h
  have h1 := absorb_inj (mixB_inj_left h)
  rw [← hl] at h1
  have h2 := mixB_inj_left (mixB_inj_left h1)
  obtain ⟨h3, h4⟩ := set_split (us := words a) (k := i) (x := wordAt a i) (by simp [words, hi]) (wordAt b i)
  rw [words_set hl hd, h4] at h2
  conv at h2 => lhs; rw [h3]
  rw [absorb_append, absorb_append] at h2
  exact hne (group_eq hl hd (mixB_inj_right (absorb_inj (ws := (words a).drop (i + 1)) h2)))
end Go.Proofs.Ytpehnggglolnoaa
