/- The law package's examples hold. -/
import Derived.Test.YtddhaofdmkmbmaaHash
namespace Go.Proofs.Ytddhaofdmkmbmaa
open Go.RowKit

theorem lv1 : (((sumI [97] [5]).toNat : Int) == ((sumI [97] [6]).toNat : Int)) = false := by decide +kernel
theorem lv2 : (((bytesB [97] [1, 2]).toNat : Int) == ((sumI [97] [513, 2]).toNat : Int)) = true := by decide +kernel
theorem lv3 : (((sumB [112, 97, 105, 114] [1#64, 2#64]).toNat : Int) == ((sumB [112, 97, 105, 114] [1#64, 3#64]).toNat : Int)) = false := by decide +kernel

/-- The call returns true, and nothing that lay has changed. -/
def RetT (w : World) (en : Ending) (w' : World) : Prop := en = .returned (.bool true) ∧ Below w.heap.size w w'

theorem lives_any (w : World) : Calls Try.prog 15 #[] w (RetT w) := by
  have h1 := lv1
  have h2 := lv2
  have h3 := lv3
  go_enter Try.func15, Try.ntmps15
  go_wp2_with fail
  refine (hsum_any ⟨#[97]⟩ _ [5] _ (Rv.lit w [.int .i64 5] 3 1 (by unfold maxLen; omega)) (by decide) (by decide)).mono ?_
  rintro e w1 ⟨rfl, hB1⟩
  go_wp2_with fail
  refine (hsum_any ⟨#[97]⟩ _ [6] _ (Rv.lit w1 [.int .i64 6] 3 1 (by unfold maxLen; omega)) (by decide) (by decide)).mono ?_
  rintro e w2 ⟨rfl, hB2⟩
  go_wp2_with fail
  refine (hbytes_any ⟨#[97]⟩ _ [1, 2] _ (Rv.lit w2 [.int .u8 1, .int .u8 2] 5 2 (by unfold maxLen; omega)) (by decide) (by decide)).mono ?_
  rintro e w3 ⟨rfl, hB3⟩
  go_wp2_with fail
  refine (hsum_any ⟨#[97]⟩ _ [513, 2] _ (Rv.lit w3 [.int .i64 513, .int .i64 2] 3 2 (by unfold maxLen; omega)) (by decide) (by decide)).mono ?_
  rintro e w4 ⟨rfl, hB4⟩
  go_wp2_with fail
  refine (hpair_any 1#64 2#64 _).mono ?_
  rintro e w5 ⟨rfl, hB5⟩
  go_wp2_with fail
  refine (hpair_any 1#64 3#64 _).mono ?_
  rintro e w6 ⟨rfl, hB6⟩
  go_wp2_with fail
  go_ret
  refine ⟨ret_val (congrArg Value.bool ?_), bel (bel (belA (belA (belA (belA (Below.refl _ w) hB1) hB2) hB3) hB4) hB5) hB6⟩
  simp only [bne, h1, h3, Bool.not_false, Bool.and_self]
end Go.Proofs.Ytddhaofdmkmbmaa
