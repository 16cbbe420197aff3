/- Contracts of SameBytes and SameInts. -/
import Derived.Test.YtadhghikanjkeaaRefA
import Derived.Deep.QuietTactic
import Derived.BigQuiet
namespace Go.Proofs.Ytadhghikanjkeaa
open Go.RowKit

theorem take_step {α : Type} {xs ys : List α} {k : Nat} {x : α} (h : xs.take k = ys.take k) (hx : xs[k]? = some x) (hy : ys[k]? = some x) : xs.take (k + 1) = ys.take (k + 1) := by
  rw [List.take_add_one, List.take_add_one, h, hx, hy]
theorem take_stop {α : Type} {xs ys : List α} (hl : xs.length = ys.length) (h : xs.take xs.length = ys.take xs.length) : xs = ys := by
  rw [List.take_length] at h; rw [h, hl, List.take_length]
theorem differ {α : Type} {xs ys : List α} {k : Nat} {x y : α} (hx : xs[k]? = some x) (hy : ys[k]? = some y) (hne : x ≠ y) : xs ≠ ys := by
  rintro rfl; rw [hx] at hy; exact hne (by simpa using hy)
theorem getE {α : Type} {xs : List α} {k : Nat} (h : k < xs.length) : ∃ x, xs[k]? = some x := ⟨xs[k], List.getElem?_eq_getElem h⟩

def sameB (xs ys : List UInt8) : Bool := decide (xs = ys)
def sameI (xs ys : List Int) : Bool := decide (xs = ys)
theorem sameB_iff {xs ys : List UInt8} : sameB xs ys = true ↔ xs = ys := by simp [sameB]
theorem sameI_iff {xs ys : List Int} : sameI xs ys = true ↔ xs = ys := by simp [sameI]

theorem Rv.drewN {w : World} {v : Value} {n : Nat} {us : List Value} (h : Rv w v n us) (k : Nat) : Rv (w.drewN k) v n us := h
theorem belD {W a : World} (h : Below W.heap.size W a) (n : Nat) : Below W.heap.size W (a.drewN n) := below_drewN h n

end Go.Proofs.Ytadhghikanjkeaa
