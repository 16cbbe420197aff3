/- Package proto: lengthHash, coreHash. -/
import Derived.Test.YtadhghikanjkeaaPrtE
namespace Go.Proofs.Ytadhghikanjkeaa
open Go.RowKit

theorem low8 (n : Nat) : ∃ n0 n1 n2 n3 n4 n5 n6 n7 : Int, (lowL 8 n).map vB = [.int .u8 n0, .int .u8 n1, .int .u8 n2, .int .u8 n3, .int .u8 n4, .int .u8 n5, .int .u8 n6, .int .u8 n7] := by
  simp only [lowL, List.map_cons, List.map_nil, vB]
  exact ⟨_, _, _, _, _, _, _, _, rfl⟩
/-- Eight zero cells. -/
def Z8 (W : World) (b : Nat) : Prop := W.heap[b]? = some (.cells #[.int .u8 0, .int .u8 0, .int .u8 0, .int .u8 0, .int .u8 0, .int .u8 0, .int .u8 0, .int .u8 0] 82 (0, 0))
theorem Z8.cell {W : World} {b j : Nat} (h : Z8 W b) (hj : j < 8) : W.cell? ⟨b, j, none⟩ = some (.int .u8 0) := by
  unfold Z8 at h
  obtain rfl | rfl | rfl | rfl | rfl | rfl | rfl | rfl : j = 0 ∨ j = 1 ∨ j = 2 ∨ j = 3 ∨ j = 4 ∨ j = 5 ∨ j = 6 ∨ j = 7 := by omega
  all_goals simp [World.cell?, h]
theorem Z8.thaw {W : World} {b : Nat} (h : Z8 W b) (j : Nat) : W.frozen? ⟨b, j, none⟩ = false := by
  unfold Z8 at h
  simp [World.frozen?, h]
theorem Z8.new (w : World) : Z8 (w.alloc (.cells #[.int .u8 0, .int .u8 0, .int .u8 0, .int .u8 0, .int .u8 0, .int .u8 0, .int .u8 0, .int .u8 0] 82)) w.heap.size := World.alloc_heap_new w _
theorem Z8.lt {W : World} {b : Nat} (h : Z8 W b) : b < W.heap.size := (Array.getElem?_eq_some_iff.1 h).1
theorem Z8.later {W W' : World} {b : Nat} (h : Z8 W b) (hb : Below W.heap.size W W') : Z8 W' b := (hb.block b h.lt).trans h

set_option maxRecDepth 20000 in
set_option maxHeartbeats 2000000 in
theorem lengthHash_any (n : Int) (w : World) :
    Calls Try.prog 35 #[.int .i64 n] w fun e w' => e = .returned (.agg ((lenH n).map vB).toArray) ∧ Below w.heap.size w w' := by
  obtain ⟨n0, n1, n2, n3, n4, n5, n6, n7, hl⟩ := low8 (sumI lenL [n]).toNat
  have HL := Lib.hid hl
  unfold lenH
  clear hl
  go_enter Try.func35, Try.ntmps35
  go_wp2_with fail
  refine (hsum_any _ _ [n] _ (by have := Rv.one (w.alloc (.cells #[.int .u8 0, .int .u8 0, .int .u8 0, .int .u8 0, .int .u8 0, .int .u8 0, .int .u8 0, .int .u8 0] 82)) (.int .i64 n) 3; rwa [World.size_alloc] at this) (by decide) (by simp)).mono ?_
  rintro e w1 ⟨rfl, h1⟩
  have z0 := ((Z8.new w).later ((Below.refl _ _).alloc (Nat.le_refl _) _)).later h1
  have b0 : Below w.heap.size w w1 := (((Below.refl _ w).alloc (Nat.le_refl _) _).alloc (by simp) _).trans (h1.mono (by simp; omega))
  clear h1
  go_wp2_with fail
  refine (hashBytes_any (sumI lenL [n]) _).mono ?_
  rintro e w2 ⟨rfl, h2⟩
  have z1 := z0.later h2
  have b1 := b0.trans (h2.mono b0.size)
  clear h2 z0 b0
  rw [HL.out]
  have k0 := z1.cell (j := 0) (by decide)
  have k1 := z1.cell (j := 1) (by decide)
  have k2 := z1.cell (j := 2) (by decide)
  have k3 := z1.cell (j := 3) (by decide)
  have k4 := z1.cell (j := 4) (by decide)
  have k5 := z1.cell (j := 5) (by decide)
  have k6 := z1.cell (j := 6) (by decide)
  have k7 := z1.cell (j := 7) (by decide)
  have kz := fun j => z1.thaw j
  go_wp2_with fail
  refine bodyPost_ret (results_cell_row rfl _ _ w.heap.size _ _ _ _ rfl (set8 z1 _ _ _ _ _ _ _ _) rfl rfl rfl) rfl ?_
  exact ⟨by rw [HL.out], bel8 b1 (Nat.le_refl _) _ _ _ _ _ _ _ _⟩

set_option maxRecDepth 20000 in
set_option maxHeartbeats 2000000 in
theorem coreHash_any (ab : Option Addr) (cb : Nat) (bs : List UInt8) (w : World) (hr : Rv w (.slice ab bs.length cb) bs.length (bs.map vB)) (hbs : bs.length ≤ 1099511627776) :
    Calls Try.prog 36 #[.slice ab bs.length cb] w fun e w' => e = .returned (.agg ((coreH bs).map vB).toArray) ∧ Below w.heap.size w w' := by
  obtain ⟨n0, n1, n2, n3, n4, n5, n6, n7, hl⟩ := low8 (bytesB msgL bs).toNat
  have HL := Lib.hid hl
  unfold coreH
  clear hl
  go_enter Try.func36, Try.ntmps36
  go_wp2_with fail
  refine (hbytes_any _ _ bs _ (hr.below ((Below.refl _ _).alloc (Nat.le_refl _) _)) (by decide) hbs).mono ?_
  rintro e w1 ⟨rfl, h1⟩
  have z0 := (Z8.new w).later h1
  have b0 : Below w.heap.size w w1 := ((Below.refl _ w).alloc (Nat.le_refl _) _).trans (h1.mono (by simp))
  clear h1
  go_wp2_with fail
  refine (hashBytes_any (bytesB msgL bs) _).mono ?_
  rintro e w2 ⟨rfl, h2⟩
  have z1 := z0.later h2
  have b1 := b0.trans (h2.mono b0.size)
  clear h2 z0 b0
  rw [HL.out]
  have k0 := z1.cell (j := 0) (by decide)
  have k1 := z1.cell (j := 1) (by decide)
  have k2 := z1.cell (j := 2) (by decide)
  have k3 := z1.cell (j := 3) (by decide)
  have k4 := z1.cell (j := 4) (by decide)
  have k5 := z1.cell (j := 5) (by decide)
  have k6 := z1.cell (j := 6) (by decide)
  have k7 := z1.cell (j := 7) (by decide)
  have kz := fun j => z1.thaw j
  go_wp2_with fail
  refine bodyPost_ret (results_cell_row rfl _ _ w.heap.size _ _ _ _ rfl (set8 z1 _ _ _ _ _ _ _ _) rfl rfl rfl) rfl ?_
  exact ⟨by rw [HL.out], bel8 b1 (Nat.le_refl _) _ _ _ _ _ _ _ _⟩
end Go.Proofs.Ytadhghikanjkeaa
