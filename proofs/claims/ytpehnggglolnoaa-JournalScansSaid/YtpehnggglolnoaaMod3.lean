/- rexmillref02.Reader: Int, Bool, length, End. -/
import Derived.Test.YtpehnggglolnoaaMod2
namespace Go.Proofs.Ytpehnggglolnoaa
open Go.RowKit

theorem mint_any (b D : Nat) (hD : D ≤ b) (s : RS) (w : World) (h : Mst w b D s) :
    Calls Try.prog 92 #[.pointer (some ⟨b, 0, none⟩)] w (MPost w b D (rdI s).2 (.int .i64 (rdI s).1)) := by
  have hb := rdU_bound s
  have HB := Lib.hid hb
  clear hb
  go_enter Try.func92, Try.ntmps92
  go_wp2_with fail
  refine (muint_any b D hD s w h).mono ?_
  rintro e w1 ⟨rfl, T1, S1⟩
  go_wp2_with fail
  refine (eback_any (rdU s).1 _ HB.out).mono ?_
  rintro e w2 ⟨rfl, rfl⟩
  go_wp2_with fail
  go_ret
  exact ⟨rfl, T1, S1⟩

end Go.Proofs.Ytpehnggglolnoaa
