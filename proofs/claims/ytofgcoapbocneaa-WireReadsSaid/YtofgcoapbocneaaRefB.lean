/- The reference's Bound. -/
import Derived.Test.YtofgcoapbocneaaRefA
namespace Go.Proofs.Ytofgcoapbocneaa
open Go.RowKit

theorem bound_any (n : Int) (m : Int) (hm : 0 ≤ m) (hn : -9223372036854775808 ≤ n) (hn' : n ≤ 9223372036854775807) (hm' : m ≤ 4611686018427387000) (w : World) :
    Calls Try.prog 13 #[.int .i64 n, .int .i64 m] w fun e w' => ∃ k : Int, -m ≤ k ∧ k ≤ m ∧ e = .returned (.int .i64 k) ∧ w = w' := by
  have e1 : wrap64 (2 * m) = 2 * m := by unfold wrap64; omega
  have e2 : wrap64 (2 * m + 1) = 2 * m + 1 := by unfold wrap64; omega
  have h1 := around_lo n (2 * m + 1) (by omega)
  have h2 := around_hi n (2 * m + 1) (by omega)
  have e3 : wrap64 (around n (2 * m + 1) - m) = around n (2 * m + 1) - m := by unfold wrap64; omega
  go_enter Try.func13, Try.ntmps13
  go_wp2_with fail
  refine (around_any n (2 * m + 1) (by omega) hn hn' (by omega) _).mono ?_
  rintro en w' ⟨rfl, rfl⟩
  go_wp2_with fail
  go_ret
  exact ⟨around n (2 * m + 1) - m, by omega, by omega, rfl, rfl⟩
end Go.Proofs.Ytofgcoapbocneaa
