/- Several texts in one: TxtA TxtB. -/
import Derived.Test.YtpehnggglolnoaaSame
/- Package text and its model: Word, Assert, surrogate. -/
namespace Go.Proofs.Ytpehnggglolnoaa
open Go.RowKit

/-- A letter, a digit or the low line. -/
def wordS (n : Int) : Bool := decide ((97 ≤ n ∧ n ≤ 122) ∨ (65 ≤ n ∧ n ≤ 90) ∨ (48 ≤ n ∧ n ≤ 57) ∨ n = 95)
theorem ret_bool {a b : Bool} (h : a = b) : Ending.returned (.bool a) = .returned (.bool b) := by rw [h]

def surr (n : Int) : Bool := decide (55296 ≤ n ∧ n ≤ 57343)
/-- The symbols of a text. -/
def symB (runes : Bool) (n : Int) : Bool := if runes then decide ((0 ≤ n ∧ n < 55296) ∨ (57343 < n ∧ n ≤ 1114111)) else decide (0 ≤ n ∧ n ≤ 255)
/-- The assertions; s is the symbol before, t the one behind. -/
def assB (k : Int) (l : List Int) (at_ : Int) : Bool :=
  if at_ < 0 ∨ (l.length : Int) < at_ then false else
  let before := decide (0 < at_) && wordS (l.getD (at_.toNat - 1) 0)
  let after := decide (at_ < (l.length : Int)) && wordS (l.getD at_.toNat 0)
  if k = 0 then decide (at_ = 0) else if k = 1 then decide (at_ = (l.length : Int))
  else if k = 2 then decide (at_ = 0) || (l.getD (at_.toNat - 1) 0 == 10)
  else if k = 3 then decide (at_ = (l.length : Int)) || (l.getD at_.toNat 0 == 10)
  else if k = 4 then before != after else if k = 5 then before == after else false
end Go.Proofs.Ytpehnggglolnoaa

/- Package text and its model: Assert. -/
namespace Go.Proofs.Ytpehnggglolnoaa
open Go.RowKit

/-- What an assertion says inside a text: of the symbol before (if there is one) and the one behind. -/
def assO (k : Int) (before after : Option Int) : Bool :=
  if k = 0 then before.isNone else if k = 1 then after.isNone
  else if k = 2 then before.isNone || (before == some 10)
  else if k = 3 then after.isNone || (after == some 10)
  else if k = 4 then (before.any wordS) != (after.any wordS) else if k = 5 then (before.any wordS) == (after.any wordS) else false
/-- The assertions at a position. -/
def assP (k : Int) (l : List Int) (p : Int) : Bool :=
  if p < 0 ∨ (l.length : Int) < p then false else assO k (if p = 0 then none else l[p.toNat - 1]?) l[p.toNat]?
theorem assP_in (k : Int) (l : List Int) (p : Nat) (h : p ≤ l.length) : assP k l (p : Int) = assO k (if p = 0 then none else l[p - 1]?) l[p]? := by
  unfold assP
  rw [if_neg (by omega)]
  simp

end Go.Proofs.Ytpehnggglolnoaa
