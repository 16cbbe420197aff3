/- rexmillref02.Same: two values that are equal. -/
import Derived.Test.YtofgcoapbocneaaVals
namespace Go.Proofs.Ytofgcoapbocneaa
open Go.RowKit

set_option maxHeartbeats 4000000 in
theorem same_any (m : V) (va vl vb vl2 : Value) (w : World) (h1 : Rv w va m.b.length (m.b.map vB)) (h2 : Rv w vl m.l.length (m.l.map (Value.int .i64))) (h3 : Rv w vb m.b.length (m.b.map vB)) (h4 : Rv w vl2 m.l.length (m.l.map (Value.int .i64))) :
    Calls Try.prog 22 #[m.val va vl, m.val vb vl2] w (RetT w) := by
  obtain ⟨k, u, n, mb, ml⟩ := m
  obtain ⟨a1, c1, rfl, _, _⟩ := h1.opened
  obtain ⟨a2, c2, rfl, _, _⟩ := h2.opened
  obtain ⟨a3, c3, rfl, _, _⟩ := h3.opened
  obtain ⟨a4, c4, rfl, _, _⟩ := h4.opened
  unfold V.val
  have C1 := (Box5.new w (.int .i64 k) (.int .u64 (u : Int)) (.int .i64 n) (.slice a1 mb.length c1) (.slice a2 ml.length c2)).alloc (.cells #[.int .i64 k, .int .u64 (u : Int), .int .i64 n, .slice a3 mb.length c3, .slice a4 ml.length c4] 47)
  have C2 := Box5.new (w.alloc (.cells #[.int .i64 k, .int .u64 (u : Int), .int .i64 n, .slice a1 mb.length c1, .slice a2 ml.length c2] 47)) (.int .i64 k) (.int .u64 (u : Int)) (.int .i64 n) (.slice a3 mb.length c3) (.slice a4 ml.length c4)
  have B0 : Below w.heap.size w ((w.alloc (.cells #[.int .i64 k, .int .u64 (u : Int), .int .i64 n, .slice a1 mb.length c1, .slice a2 ml.length c2] 47)).alloc (.cells #[.int .i64 k, .int .u64 (u : Int), .int .i64 n, .slice a3 mb.length c3, .slice a4 ml.length c4] 47)) := ((Below.refl _ w).alloc (Nat.le_refl _) _).alloc (by simp) _
  rw [World.size_alloc] at C2
  go_enter Try.func22, Try.ntmps22
  have g3 := C1.k3
  have e3 := C2.k3
  go_wp2_with fail
  refine (sameBytes_refl _ _ _ _ (h1.below B0) (h3.below B0)).mono ?_
  rintro e w1 ⟨rfl, n1, hw1⟩
  have D1 : Box5 w1 w.heap.size (.int .i64 k) (.int .u64 (u : Int)) (.int .i64 n) (.slice a1 mb.length c1) (.slice a2 ml.length c2) := by rw [hw1]; exact C1
  have D2 : Box5 w1 (w.heap.size + 1) (.int .i64 k) (.int .u64 (u : Int)) (.int .i64 n) (.slice a3 mb.length c3) (.slice a4 ml.length c4) := by rw [hw1]; exact C2
  have B1 : Below w.heap.size w w1 := by rw [hw1]; exact belD B0 _
  have r2 := h2.below B1
  have r4 := h4.below B1
  clear hw1 C1 C2 B0 g3 e3
  have g4 := D1.k4
  have e4 := D2.k4
  go_wp2_with fail
  refine (sameInts_refl _ _ _ _ r2 r4).mono ?_
  rintro e w2 ⟨rfl, n2, hw2⟩
  have F1 : Box5 w2 w.heap.size (.int .i64 k) (.int .u64 (u : Int)) (.int .i64 n) (.slice a1 mb.length c1) (.slice a2 ml.length c2) := by rw [hw2]; exact D1
  have F2 : Box5 w2 (w.heap.size + 1) (.int .i64 k) (.int .u64 (u : Int)) (.int .i64 n) (.slice a3 mb.length c3) (.slice a4 ml.length c4) := by rw [hw2]; exact D2
  have B2 : Below w.heap.size w w2 := by rw [hw2]; exact belD B1 _
  clear hw2 D1 D2 B1 g4 e4
  have g0 := F1.k0
  have g1 := F1.k1
  have g2 := F1.k2
  have e0 := F2.k0
  have e1 := F2.k1
  have e2 := F2.k2
  go_wp2_with fail
  go_ret
  exact ⟨rfl, B2⟩
end Go.Proofs.Ytofgcoapbocneaa
