/- Contracts of package hash: wordsOf, Sum, Bytes, Pair. -/
import Derived.Test.YtmofakcpldbbmaaDoorLibIn
import Derived.Test.YtmofakcpldbbmaaDoorHashC
namespace Go.Proofs.YtmofakcpldbbmaaDoor
open Go.RowKit Go.Shelf

attribute [local go_sem] Oper.semAt_some

theorem leN_take_succ {l : List UInt8} {j : Nat} {x : UInt8} (h : l[j]? = some x) : leN (l.take (j + 1)) = leN (l.take j) + 256 ^ j * x.toNat := by
  induction l generalizing j with
  | nil => simp at h
  | cons b l ih =>
    cases j with
    | zero =>
      simp only [List.getElem?_cons_zero, Option.some.injEq] at h
      subst h
      simp [leN]
    | succ j =>
      rw [List.getElem?_cons_succ] at h
      have := ih h
      rw [List.take_succ_cons, List.take_succ_cons, leN, leN, this, Nat.pow_succ, Nat.mul_add, Nat.add_assoc]
      congr 2
      rw [← Nat.mul_assoc, Nat.mul_comm 256]

theorem or_step {l : List UInt8} {j : Nat} {x : UInt8} (h : l[j]? = some x) (hj : j < 8) :
    bits BinOp.or IntKind.u64 (leN (l.take j) : Int) (IntKind.u64.wrap (IntKind.u64.wrap (x.toNat : Int) * 2 ^ (8 * j))) = (leN (l.take (j + 1)) : Int) := by
  have hx := x.toNat_lt
  have h1 : leN (l.take j) < 2 ^ (8 * j) := by
    have h2 := leN_lt (l.take j)
    have h3 : (256 : Nat) ^ (l.take j).length ≤ 256 ^ j := Nat.pow_le_pow_right (by omega) (by simp; omega)
    rw [show (256 : Nat) ^ j = 2 ^ (8 * j) from by rw [Nat.pow_mul]] at h3
    omega
  have h4 : x.toNat * 2 ^ (8 * j) < 18446744073709551616 := by
    have h5 : (2 : Nat) ^ (8 * j) ≤ 2 ^ 56 := Nat.pow_le_pow_right (by omega) (by omega)
    have h6 := Nat.mul_le_mul (Nat.le_of_lt_succ hx) h5
    exact Nat.lt_of_le_of_lt h6 (by decide)
  have e1 : IntKind.u64.wrap (x.toNat : Int) = (x.toNat : Int) := by rw [IntKind.wrap_u64]; omega
  have e2 : ((x.toNat : Int) * 2 ^ (8 * j)) = ((x.toNat * 2 ^ (8 * j) : Nat) : Int) := by simp
  have e3 : IntKind.u64.wrap ((x.toNat * 2 ^ (8 * j) : Nat) : Int) = ((x.toNat * 2 ^ (8 * j) : Nat) : Int) := by rw [IntKind.wrap_u64]; omega
  have h7 : leN (l.take j) < 18446744073709551616 := by
    have h5 : (2 : Nat) ^ (8 * j) ≤ 2 ^ 64 := Nat.pow_le_pow_right (by omega) (by omega)
    exact Nat.lt_of_lt_of_le h1 h5
  rw [e1, e2, e3, u64_or_nat _ _ h7 h4, Nat.or_comm, nat_join (8 * j) _ _ (by simp) h1, leN_take_succ h, Nat.add_comm, Nat.mul_comm x.toNat]
  rw [show (256 : Nat) ^ j = 2 ^ (8 * j) from by rw [Nat.pow_mul]]

/-- Below B, all blocks but those of X lie as they lay. -/
def KeepX (X : Nat → Prop) (B : Nat) (W W' : World) : Prop := ∀ k, k < B → ¬ X k → W'.heap[k]? = W.heap[k]?
theorem KeepX.refl (X : Nat → Prop) (B : Nat) (W : World) : KeepX X B W W := fun _ _ _ => rfl
theorem KeepX.trans {X : Nat → Prop} {B : Nat} {a b c : World} (h : KeepX X B a b) (h' : KeepX X B b c) : KeepX X B a c := fun k h1 h2 => (h' k h1 h2).trans (h k h1 h2)
theorem KeepX.cell {X : Nat → Prop} {B : Nat} {W W' : World} (h : KeepX X B W W') {p : Addr} (h1 : p.block < B) (h2 : ¬ X p.block) : W'.cell? p = W.cell? p := World.cell?_of_block (h _ h1 h2)
theorem keepX_b {X : Nat → Prop} {B : Nat} {w : World} (hB : B ≤ w.heap.size) (W : World) (l : Nat) (o o' : Obj) (hl : w.heap.size ≤ l) (_ : W.heap[l]? = some o) (_ : o.isCells = false) (_ : o.isWalk = false) : KeepX X B W (W.putObj l o') :=
  fun k hk _ => World.putObj_heap_other (by omega)

end Go.Proofs.YtmofakcpldbbmaaDoor
