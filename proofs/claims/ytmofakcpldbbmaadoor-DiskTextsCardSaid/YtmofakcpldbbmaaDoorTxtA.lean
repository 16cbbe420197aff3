/- Package text and its model: Word, Assert, surrogate. -/
import Derived.Test.YtmofakcpldbbmaaDoorSame
namespace Go.Proofs.YtmofakcpldbbmaaDoor
open Go.RowKit

/-- A letter, a digit or the low line. -/
def wordS (n : Int) : Bool := decide ((97 ≤ n ∧ n ≤ 122) ∨ (65 ≤ n ∧ n ≤ 90) ∨ (48 ≤ n ∧ n ≤ 57) ∨ n = 95)
theorem ret_bool {a b : Bool} (h : a = b) : Ending.returned (.bool a) = .returned (.bool b) := by rw [h]

def surr (n : Int) : Bool := decide (55296 ≤ n ∧ n ≤ 57343)
theorem surrogate_any (n : Int) (w : World) : Calls Tryd.prog 35 #[.int .i64 n] w fun e w' => e = .returned (.bool (surr n)) ∧ w = w' := by
  go_enter Tryd.func35, Tryd.ntmps35
  go_wp2_with fail
  all_goals
    go_ret
    refine ⟨ret_bool ?_, rfl⟩
    rw [Bool.eq_iff_iff]
    simp [surr]
    try omega

/-- The symbols of a text. -/
def symB (runes : Bool) (n : Int) : Bool := if runes then decide ((0 ≤ n ∧ n < 55296) ∨ (57343 < n ∧ n ≤ 1114111)) else decide (0 ≤ n ∧ n ≤ 255)
/-- The assertions; s is the symbol before, t the one behind. -/
def assB (k : Int) (l : List Int) (at_ : Int) : Bool :=
  if at_ < 0 ∨ (l.length : Int) < at_ then false else
  let before := decide (0 < at_) && wordS (l.getD (at_.toNat - 1) 0)
  let after := decide (at_ < (l.length : Int)) && wordS (l.getD at_.toNat 0)
  if k = 0 then decide (at_ = 0) else if k = 1 then decide (at_ = (l.length : Int))
  else if k = 2 then decide (at_ = 0) || (l.getD (at_.toNat - 1) 0 == 10)
  else if k = 3 then decide (at_ = (l.length : Int)) || (l.getD at_.toNat 0 == 10)
  else if k = 4 then before != after else if k = 5 then before == after else false
end Go.Proofs.YtmofakcpldbbmaaDoor
