/- The law package's examples hold. -/
import Derived.Test.YtmofakcpldbbmaaDoorTxtR
import Derived.Test.YtmofakcpldbbmaaDoorTxtJ
namespace Go.Proofs.YtmofakcpldbbmaaDoor
open Go.RowKit

theorem ld1 : decM true [195, 164, 97] = [228, 97] := by decide +kernel
theorem ld2 : decM true [192, 128] = [-1] := by decide +kernel
theorem ld3 : decM true [237, 160, 128] = [-1] := by decide +kernel
theorem le1 : decE [228, 97] = 0 := by decide +kernel
theorem le2 : decE [-1] = 9 := by decide +kernel
theorem ll1 : decL [228, 97] = [228, 97] := by decide +kernel
theorem ll2 : decL [-1] = [] := by decide +kernel
theorem lc1 : chkE 3 ⟨1, 1, [7, 8]⟩ = 0 := by decide +kernel
theorem ls1 : splR [1, 2, 3] ⟨1, 1, [7, 8]⟩ = [1, 7, 8, 3] := by decide +kernel
theorem lu1 : undR [1, 2, 3] ⟨1, 1, [7, 8]⟩ = ⟨1, 2, [2]⟩ := by rw [undR, if_pos (show chkE ([1, 2, 3] : List Int).length ⟨1, 1, [7, 8]⟩ = 0 from lc1)]; rfl
theorem la1 : ∀ k : Nat, k < 4 → assP 4 [97, 32, 98] (k : Int) = true := by decide +kernel

end Go.Proofs.YtmofakcpldbbmaaDoor
