/- The model's Same, of a message and itself. -/
import Derived.Test.YtadhghikanjkeaaPrtQ
import Derived.Deep.RegionHeld3
namespace Go.Proofs.Ytadhghikanjkeaa
open Go.RowKit

set_option maxRecDepth 20000 in
set_option maxHeartbeats 1000000 in
theorem same_refl (m : Msg) (ab af eb ef : Option Addr) (cb cf db df : Nat) (w : World) (h1 : Cells6 w m ab af cb cf) (h2 : Cells6 w m eb ef db df) :
    Calls Try.prog 16 #[msgV m ab af cb cf, msgV m eb ef db df] w fun e w' => e = .returned (.bool true) ∧ Below w.heap.size w w' := by
  have hlb := h1.body.len
  have hlf := h1.fnd.len
  unfold maxLen at hlb hlf
  have hcv := fun (W : World) (B : Below w.heap.size w W) => run_tostring W _ _ _ Try.underlying23 Try.underlying5 Try.underlying9 _ m.body (h1.body.below B)
  have hcv' := fun (W : World) (B : Below w.heap.size w W) => run_tostring W _ _ _ Try.underlying23 Try.underlying5 Try.underlying9 _ m.body (h2.body.below B)
  have B0 : Below w.heap.size w ((w.alloc (.cells #[.int .i64 m.k, .int .i64 m.c, .int .i64 m.v, .int .i64 m.o, .slice ab m.body.length cb, .slice af m.fnd.length cf] 27)).alloc (.cells #[.int .i64 m.k, .int .i64 m.c, .int .i64 m.v, .int .i64 m.o, .slice eb m.body.length db, .slice ef m.fnd.length df] 27)) := ((Below.refl _ w).alloc (Nat.le_refl _) _).alloc (by simp) _
  have kA : ((w.alloc (.cells #[.int .i64 m.k, .int .i64 m.c, .int .i64 m.v, .int .i64 m.o, .slice ab m.body.length cb, .slice af m.fnd.length cf] 27)).alloc (.cells #[.int .i64 m.k, .int .i64 m.c, .int .i64 m.v, .int .i64 m.o, .slice eb m.body.length db, .slice ef m.fnd.length df] 27)).heap[w.heap.size]? = some (msgR m.k m.c m.v m.o (.slice ab m.body.length cb) (.slice af m.fnd.length cf)) := (Below.heap_alloc _ _ _ (by simp)).trans (World.alloc_heap_new w _)
  have kB : ((w.alloc (.cells #[.int .i64 m.k, .int .i64 m.c, .int .i64 m.v, .int .i64 m.o, .slice ab m.body.length cb, .slice af m.fnd.length cf] 27)).alloc (.cells #[.int .i64 m.k, .int .i64 m.c, .int .i64 m.v, .int .i64 m.o, .slice eb m.body.length db, .slice ef m.fnd.length df] 27)).heap[w.heap.size + 1]? = some (msgR m.k m.c m.v m.o (.slice eb m.body.length db) (.slice ef m.fnd.length df)) := by
    have := World.alloc_heap_new (w.alloc (.cells #[.int .i64 m.k, .int .i64 m.c, .int .i64 m.v, .int .i64 m.o, .slice ab m.body.length cb, .slice af m.fnd.length cf] 27)) (.cells #[.int .i64 m.k, .int .i64 m.c, .int .i64 m.v, .int .i64 m.o, .slice eb m.body.length db, .slice ef m.fnd.length df] 27)
    rwa [World.size_alloc] at this
  have hc1 := hcv _ B0
  have hc2 := hcv' _ B0
  have f1 := h1.fnd.below B0
  have f2 := h2.fnd.below B0
  clear hcv hcv' h1 h2
  unfold msgV
  go_enter Try.func16, Try.ntmps16
  go_wp2_with fail
  obtain ⟨w0, hw0⟩ : ∃ w0, (w.alloc (.cells #[.int .i64 m.k, .int .i64 m.c, .int .i64 m.v, .int .i64 m.o, .slice ab m.body.length cb, .slice af m.fnd.length cf] 27)).alloc (.cells #[.int .i64 m.k, .int .i64 m.c, .int .i64 m.v, .int .i64 m.o, .slice eb m.body.length db, .slice ef m.fnd.length df] 27) = w0 := ⟨_, rfl⟩
  rw [hw0] at B0 kA kB f1 f2 ⊢
  clear hw0 hc1 hc2
  have hsA := (Array.getElem?_eq_some_iff.1 kA).1
  have hsB := (Array.getElem?_eq_some_iff.1 kB).1
  go_loopw [5] (fun iv wr => ∃ i : Nat, iv = .int .i64 (i : Int) ∧ i ≤ m.fnd.length ∧ Below w0.heap.size w0 wr) (fun iv _ => m.fnd.length - (intOf iv).toNat)
  case atStart => exact ⟨0, by first | rfl | trivial, by omega, Below.refl _ _⟩
  case round =>
    obtain ⟨i, rfl, hi, B⟩ := hrel
    have k5 := msgR_c5 ((B.block _ hsA).trans kA)
    have l5 := msgR_c5 ((B.block _ hsB).trans kB)
    by_cases hlt : i < m.fnd.length
    · obtain ⟨g, o, haf⟩ := fsome f1 hlt
      obtain ⟨g', o', hef⟩ := fsome f2 hlt
      subst haf hef
      have hlti : (i : Int) < (m.fnd.length : Int) := by omega
      obtain ⟨c1, c2, c3⟩ := fcell3 (f1.below B) hlt
      obtain ⟨d1, d2, d3⟩ := fcell3 (f2.below B) hlt
      generalize m.fnd[i] = f at *
      go_wp2_with fail
      go_region_held3 (fun W' => W'.cell? ⟨w.heap.size, 5, none⟩ = some (.slice (some ⟨g, o, none⟩) m.fnd.length cf) ∧ W'.cell? ⟨w.heap.size + 1, 5, none⟩ = some (.slice (some ⟨g', o', none⟩) m.fnd.length df) ∧ W'.cell? ⟨g, o + i * 3, none⟩ = some (.int .i64 f.r) ∧ W'.cell? ⟨g, o + i * 3 + 1, none⟩ = some (.int .i64 f.s) ∧ W'.cell? ⟨g, o + i * 3 + 2, none⟩ = some (.int .i64 f.e) ∧ W'.cell? ⟨g', o' + i * 3, none⟩ = some (.int .i64 f.r) ∧ W'.cell? ⟨g', o' + i * 3 + 1, none⟩ = some (.int .i64 f.s) ∧ W'.cell? ⟨g', o' + i * 3 + 2, none⟩ = some (.int .i64 f.e)) (exact ⟨k5, l5, c1, c2, c3, d1, d2, d3⟩) (fail)
      go_wp2_with fail
      exact ⟨⟨i + 1, by simp, by omega, B.drew⟩, by simp [intOf]; omega⟩
    · obtain rfl : i = m.fnd.length := by omega
      go_wp2_with fail
      go_ret
      exact ⟨rfl, B0.trans (B.mono B0.size)⟩
end Go.Proofs.Ytadhghikanjkeaa
