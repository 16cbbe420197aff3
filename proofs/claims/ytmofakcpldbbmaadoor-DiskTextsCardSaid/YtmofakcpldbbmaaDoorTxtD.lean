/- Package text and its model: the check of an edit. -/
import Derived.Test.YtmofakcpldbbmaaDoorTxtC
namespace Go.Proofs.YtmofakcpldbbmaaDoor
open Go.RowKit

/-- What no text of an editor holds. -/
def badE (x : Int) : Bool := decide (x < 0 ∨ 1114111 < x)
/-- An edit. -/
structure Ed where
  a : Int
  d : Int
  s : List Int
def Ed.val (e : Ed) (v : Value) : Value := .agg #[.int .i64 e.a, .int .i64 e.d, v]
/-- The error of an edit of a text of n symbols. -/
def chkE (n : Nat) (e : Ed) : Int :=
  if e.a < 0 ∨ e.d < 0 ∨ (n : Int) < e.a ∨ (n : Int) - e.a < e.d then 5
  else if e.s.any badE then 5
  else if 65536 < (n : Int) - e.d + (e.s.length : Int) then 4 else 0

section
variable {w : World} {b : Nat} {c0 c1 c2 : Value}
end

end Go.Proofs.YtmofakcpldbbmaaDoor
