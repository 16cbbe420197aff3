/- slices.Grow of nothing, slices.Concat, slices.Clone. -/
import Derived.Test.YtmofakcpldbbmaaDoorTxtE
import Derived.Lib.AppendZeros
import Derived.Lib.SliceRun
namespace Go.Proofs.YtmofakcpldbbmaaDoor
open Go.RowKit

theorem zc_size (n : Nat) : (Builtin.zeroCells (Value.int .i64 0).cells n).size = n := by
  simp [Builtin.zeroCells, Value.cells]

/-- The values of a list of slices, and what they hold. -/
abbrev PL := List (Value × List Int)
def joinP (ps : PL) : List Int := ps.flatMap (·.2)
theorem joinP_snoc (ps : PL) (i : Nat) (hi : i < ps.length) : joinP (ps.take (i + 1)) = joinP (ps.take i) ++ ps[i].2 := by
  simp only [joinP, List.take_succ_eq_append_getElem hi, List.flatMap_append, List.flatMap_cons, List.flatMap_nil, List.append_nil]
theorem joinP_le (ps : PL) (i : Nat) : (joinP (ps.take i)).length ≤ (joinP ps).length := by
  have h : joinP (ps.take i ++ ps.drop i) = joinP (ps.take i) ++ joinP (ps.drop i) := by simp only [joinP, List.flatMap_append]
  rw [List.take_append_drop] at h
  rw [h, List.length_append]
  omega

end Go.Proofs.YtmofakcpldbbmaaDoor
