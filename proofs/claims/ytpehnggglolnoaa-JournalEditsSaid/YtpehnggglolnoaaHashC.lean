/- What the hash's contracts share: how the walk spells mixing, words of bytes, and the contract of hash.mix. -/
import Derived.Test.YtpehnggglolnoaaSame
import Derived.Test.YtpehnggglolnoaaHashM
namespace Go.Proofs.Ytpehnggglolnoaa
open Go.RowKit

theorem wrap_toNat (x : BitVec 64) : IntKind.u64.wrap (x.toNat : Int) = x.toNat := by
  rw [IntKind.wrap_u64]; have := x.isLt; omega
theorem xor_toNat (a b : Int) : bits BinOp.xor IntKind.u64 a b = ((BitVec.ofInt 64 a ^^^ BitVec.ofInt 64 b).toNat : Int) := wrap_toNat _
theorem mul_toNat (x : BitVec 64) : IntKind.u64.wrap ((x.toNat : Int) * 11400714819323198485) = ((x * mulB).toNat : Int) := by
  rw [IntKind.wrap_u64, BitVec.toNat_mul]
  show _ = (((_ : Nat) * 11400714819323198485 % 18446744073709551616 : Nat) : Int)
  omega
theorem shift_toNat (x : BitVec 64) : (x.toNat : Int) / (4294967296 : Int) = ((x >>> 32).toNat : Int) := by
  rw [BitVec.toNat_ushiftRight, Nat.shiftRight_eq_div_pow]; rfl
theorem mix_spell (a b : Int) : bits BinOp.xor IntKind.u64 (IntKind.u64.wrap (bits BinOp.xor IntKind.u64 a b * 11400714819323198485))
    (IntKind.u64.wrap (bits BinOp.xor IntKind.u64 a b * 11400714819323198485) / 4294967296) = mixI a b := by
  rw [xor_toNat a b, mul_toNat, shift_toNat, xor_toNat, ofInt_toNat, ofInt_toNat]
  rfl
theorem mix_spell' (a b : Int) : bits BinOp.xor IntKind.u64 (IntKind.u64.wrap (bits BinOp.xor IntKind.u64 a b * 11400714819323198485))
    (IntKind.u64.wrap ((IntKind.u64.wrap (bits BinOp.xor IntKind.u64 a b * 11400714819323198485)).tdiv 4294967296)) = mixI a b := by
  rw [← mix_spell a b, xor_toNat a b, mul_toNat, Int.tdiv_eq_ediv_of_nonneg (by omega), shift_toNat, wrap_toNat]

theorem leN_lt (l : List UInt8) : leN l < 256 ^ l.length := by
  induction l with
  | nil => simp [leN]
  | cons b l ih =>
    have := b.toNat_lt
    simp only [leN, List.length_cons, Nat.pow_succ]
    omega

theorem leN_step {bs : List UInt8} {hi k : Nat} {b : UInt8} (hk : k < hi) (hb : bs[k]? = some b) : leN ((bs.take hi).drop k) = b.toNat + 256 * leN ((bs.take hi).drop (k + 1)) := by
  have h : (bs.take hi)[k]? = some b := by rw [List.getElem?_take]; simp [hk, hb]
  obtain ⟨hlt, hget⟩ := List.getElem?_eq_some_iff.1 h
  rw [List.drop_eq_getElem_cons hlt, hget]
  rfl

theorem leN_small {bs : List UInt8} {hi k : Nat} (h : hi ≤ k + 8) : leN ((bs.take hi).drop k) < 18446744073709551616 := by
  have h1 := leN_lt ((bs.take hi).drop k)
  have h2 : ((bs.take hi).drop k).length ≤ 8 := by simp; omega
  exact Nat.lt_of_lt_of_le h1 (Nat.pow_le_pow_right (by omega) h2)

theorem wordAt_take (bs : List UInt8) (i : Nat) : leN ((bs.take (min (8 * i + 8) bs.length)).drop (8 * i)) = leN ((bs.drop (8 * i)).take 8) := by
  congr 1
  rw [List.drop_take]
  by_cases h : 8 * i + 8 ≤ bs.length
  · rw [Nat.min_eq_left h]; congr 1; omega
  · rw [Nat.min_eq_right (by omega), List.take_of_length_le (by simp), List.take_of_length_le (by simp; omega)]

theorem wordAt_val (bs : List UInt8) (i : Nat) : (((wordAt bs i).toNat : Nat) : Int) = (leN ((bs.take (min (8 * i + 8) bs.length)).drop (8 * i)) : Int) := by
  rw [wordAt_take, wordAt, BitVec.toNat_ofNat, ← wordAt_take, Nat.mod_eq_of_lt (leN_small (by omega))]

/-- The call returns a number of 64 bits, and nothing that lay has changed. -/
def RetU (w : World) (x : BitVec 64) (en : Ending) (w' : World) : Prop := en = .returned (.int .u64 (x.toNat : Int)) ∧ Below w.heap.size w w'

theorem hmix_any (a b : Int) (w : World) :
    Calls Try.prog 94 #[.int .u64 a, .int .u64 b] w fun e w' => e = .returned (.int .u64 (mixI a b)) ∧ w = w' := by
  go_enter Try.func94, Try.ntmps94
  go_wp2
  go_ret
  exact ⟨ret_val (congrArg (Value.int .u64) (mix_spell a b)), rfl⟩

end Go.Proofs.Ytpehnggglolnoaa
