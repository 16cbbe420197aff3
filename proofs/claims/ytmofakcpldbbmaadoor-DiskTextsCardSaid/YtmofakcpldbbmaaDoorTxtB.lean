/- Package text and its model: Assert. -/
import Derived.Test.YtmofakcpldbbmaaDoorTxtA
namespace Go.Proofs.YtmofakcpldbbmaaDoor
open Go.RowKit

/-- What an assertion says inside a text: of the symbol before (if there is one) and the one behind. -/
def assO (k : Int) (before after : Option Int) : Bool :=
  if k = 0 then before.isNone else if k = 1 then after.isNone
  else if k = 2 then before.isNone || (before == some 10)
  else if k = 3 then after.isNone || (after == some 10)
  else if k = 4 then (before.any wordS) != (after.any wordS) else if k = 5 then (before.any wordS) == (after.any wordS) else false
/-- The assertions at a position. -/
def assP (k : Int) (l : List Int) (p : Int) : Bool :=
  if p < 0 ∨ (l.length : Int) < p then false else assO k (if p = 0 then none else l[p.toNat - 1]?) l[p.toNat]?
theorem assP_in (k : Int) (l : List Int) (p : Nat) (h : p ≤ l.length) : assP k l (p : Int) = assO k (if p = 0 then none else l[p - 1]?) l[p]? := by
  unfold assP
  rw [if_neg (by omega)]
  simp

end Go.Proofs.YtmofakcpldbbmaaDoor
