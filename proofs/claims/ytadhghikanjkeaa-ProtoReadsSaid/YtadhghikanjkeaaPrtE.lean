/- Package proto: hashBytes, lengthHash, coreHash. -/
import Derived.Test.YtadhghikanjkeaaPrtD
import Derived.Test.YtadhghikanjkeaaHash
namespace Go.Proofs.Ytadhghikanjkeaa
open Go.RowKit

theorem lowL_get (k i n : Nat) (hi : i < k) : (lowL k n)[i]? = some (UInt8.ofNat (n / 256 ^ i)) := by
  induction k generalizing i n with
  | zero => omega
  | succ k ih =>
    cases i with
    | zero => simp [lowL]
    | succ i =>
      rw [lowL, List.getElem?_cons_succ, ih i _ (by omega), Nat.pow_succ, Nat.mul_comm, Nat.div_div_eq_div_mul]

def hcell (n i j : Nat) : Value := if j < i then vB (UInt8.ofNat (n / 256 ^ j)) else .int .u8 0
/-- Where hashBytes stands. -/
structure HSt (w W : World) (n i : Nat) : Prop where
  zero : W.heap[w.heap.size]? = some (.cells #[.int .u8 0, .int .u8 0, .int .u8 0, .int .u8 0, .int .u8 0, .int .u8 0, .int .u8 0, .int .u8 0] 82 (0, 0))
  blk : W.heap[w.heap.size + 1]? = some (.cells #[hcell n i 0, hcell n i 1, hcell n i 2, hcell n i 3, hcell n i 4, hcell n i 5, hcell n i 6, hcell n i 7] 82 (0, 0))
  bel : Below w.heap.size w W
theorem HSt.cell {w W : World} {n i j : Nat} (h : HSt w W n i) (hj : j < 8) : W.cell? ⟨w.heap.size + 1, j, none⟩ = some (hcell n i j) := by
  obtain rfl | rfl | rfl | rfl | rfl | rfl | rfl | rfl : j = 0 ∨ j = 1 ∨ j = 2 ∨ j = 3 ∨ j = 4 ∨ j = 5 ∨ j = 6 ∨ j = 7 := by omega
  all_goals simp [World.cell?, h.blk]

theorem HSt.thaw {w W : World} {n i : Nat} (h : HSt w W n i) (j : Nat) : W.frozen? ⟨w.heap.size + 1, j, none⟩ = false := by
  simp [World.frozen?, h.blk]
theorem HSt.zthaw {w W : World} {n i : Nat} (h : HSt w W n i) (j : Nat) : W.frozen? ⟨w.heap.size, j, none⟩ = false := by
  simp [World.frozen?, h.zero]
theorem setSame {w : World} {b i : Nat} {cs : Array Value} {T : TypeId} {fr : Nat × Nat} (hb : w.heap[b]? = some (.cells cs T fr)) (v : Value) : (w.setCell ⟨b, i, none⟩ v).heap[b]? = some (.cells (cs.setIfInBounds i v) T fr) := by
  simp [World.setCell, Array.getElem?_modify, hb]
theorem HSt.cell8 {w W : World} {n j : Nat} (h : HSt w W n 8) (hj : j < 8) : W.cell? ⟨w.heap.size + 1, j, none⟩ = some (.int .u8 ((UInt8.ofNat (n / 256 ^ j)).toNat : Int)) := by
  rw [h.cell hj, hcell, if_pos hj]; rfl
theorem set8 {w : World} {b : Nat} {T : TypeId} {z0 z1 z2 z3 z4 z5 z6 z7 : Value} (hb : w.heap[b]? = some (.cells #[z0, z1, z2, z3, z4, z5, z6, z7] T (0, 0))) (c0 c1 c2 c3 c4 c5 c6 c7 : Value) :
    ((((((((w.setCell ⟨b, 0, none⟩ c0).setCell ⟨b, 1, none⟩ c1).setCell ⟨b, 2, none⟩ c2).setCell ⟨b, 3, none⟩ c3).setCell ⟨b, 4, none⟩ c4).setCell ⟨b, 5, none⟩ c5).setCell ⟨b, 6, none⟩ c6).setCell ⟨b, 7, none⟩ c7).heap[b]? = some (.cells #[c0, c1, c2, c3, c4, c5, c6, c7] T (0, 0)) := by
  have h := setSame (i := 7) (setSame (i := 6) (setSame (i := 5) (setSame (i := 4) (setSame (i := 3) (setSame (i := 2) (setSame (i := 1) (setSame (i := 0) hb c0) c1) c2) c3) c4) c5) c6) c7
  simpa using h
theorem bel8 {B : Nat} {w W : World} (h : Below B w W) {b : Nat} (hb : B ≤ b) (c0 c1 c2 c3 c4 c5 c6 c7 : Value) :
    Below B w ((((((((W.setCell ⟨b, 0, none⟩ c0).setCell ⟨b, 1, none⟩ c1).setCell ⟨b, 2, none⟩ c2).setCell ⟨b, 3, none⟩ c3).setCell ⟨b, 4, none⟩ c4).setCell ⟨b, 5, none⟩ c5).setCell ⟨b, 6, none⟩ c6).setCell ⟨b, 7, none⟩ c7) :=
  (((((((h.setCell hb c0).setCell hb c1).setCell hb c2).setCell hb c3).setCell hb c4).setCell hb c5).setCell hb c6).setCell hb c7
theorem HSt.zcell {w W : World} {n i j : Nat} (h : HSt w W n i) (hj : j < 8) : W.cell? ⟨w.heap.size, j, none⟩ = some (.int .u8 0) := by
  obtain rfl | rfl | rfl | rfl | rfl | rfl | rfl | rfl : j = 0 ∨ j = 1 ∨ j = 2 ∨ j = 3 ∨ j = 4 ∨ j = 5 ∨ j = 6 ∨ j = 7 := by omega
  all_goals simp [World.cell?, h.zero]

set_option maxRecDepth 20000 in
set_option maxHeartbeats 2000000 in
theorem hashBytes_any (h : BitVec 64) (w : World) :
    Calls Try.prog 55 #[.int .u64 (h.toNat : Int)] w fun e w' => e = .returned (.agg ((lowL 8 h.toNat).map vB).toArray) ∧ Below w.heap.size w w' := by
  have hh := h.isLt
  go_enter Try.func55, Try.ntmps55
  go_wp2_with fail
  go_loopw [5] (fun iv wr => ∃ i : Nat, iv = .int .i64 (i : Int) ∧ i ≤ 8 ∧ HSt w wr h.toNat i) (fun iv _ => 8 - (intOf iv).toNat)
  case atStart =>
    exact ⟨0, by first | rfl | trivial, by omega, (Below.heap_alloc _ _ _ (by simp)).trans (World.alloc_heap_new w _), by have := World.alloc_heap_new (w.alloc (.cells #[.int .u8 0, .int .u8 0, .int .u8 0, .int .u8 0, .int .u8 0, .int .u8 0, .int .u8 0, .int .u8 0] 82)) (.cells #[.int .u8 0, .int .u8 0, .int .u8 0, .int .u8 0, .int .u8 0, .int .u8 0, .int .u8 0, .int .u8 0] 82); rwa [World.size_alloc] at this, ((Below.refl _ w).alloc (Nat.le_refl _) _).alloc (by simp) _⟩
  case round =>
    obtain ⟨i, rfl, hi, E⟩ := hrel
    by_cases hlt : i < 8
    · have hc := E.cell hlt
      have hz := E.thaw i
      go_wp2_with fail
      refine ⟨⟨i + 1, by simp, by omega, ?_⟩, by simp [intOf]; omega⟩
      have hset := setSame (i := i) E.blk (Value.int IntKind.u8 ((h.toNat : Int) / 2 ^ (8 * i) % 256))
      refine ⟨(Below.heap_setCell _ _ _ _ (by simp)).trans E.zero, ?_, E.bel.setCell (by simp) _⟩
      rw [hset]
      have hv : (Value.int IntKind.u8 ((h.toNat : Int) / 2 ^ (8 * i) % 256)) = vB (UInt8.ofNat (h.toNat / 256 ^ i)) := by
        have e : (256 : Nat) ^ i = 2 ^ (8 * i) := by rw [show (256 : Nat) = 2 ^ 8 from rfl, ← Nat.pow_mul]
        rw [vB, UInt8.toNat_ofNat', e]
        simp
      rw [hv]
      clear hv hset hc
      obtain rfl | rfl | rfl | rfl | rfl | rfl | rfl | rfl : i = 0 ∨ i = 1 ∨ i = 2 ∨ i = 3 ∨ i = 4 ∨ i = 5 ∨ i = 6 ∨ i = 7 := by omega
      all_goals simp [hcell]
    · obtain rfl : i = 8 := by omega
      have e0 := E.cell8 (j := 0) (by decide)
      have e1 := E.cell8 (j := 1) (by decide)
      have e2 := E.cell8 (j := 2) (by decide)
      have e3 := E.cell8 (j := 3) (by decide)
      have e4 := E.cell8 (j := 4) (by decide)
      have e5 := E.cell8 (j := 5) (by decide)
      have e6 := E.cell8 (j := 6) (by decide)
      have e7 := E.cell8 (j := 7) (by decide)
      have k0 := E.zcell (j := 0) (by decide)
      have k1 := E.zcell (j := 1) (by decide)
      have k2 := E.zcell (j := 2) (by decide)
      have k3 := E.zcell (j := 3) (by decide)
      have k4 := E.zcell (j := 4) (by decide)
      have k5 := E.zcell (j := 5) (by decide)
      have k6 := E.zcell (j := 6) (by decide)
      have k7 := E.zcell (j := 7) (by decide)
      have kz := fun j => E.zthaw j
      have hl : (lowL 8 h.toNat).map vB = [0, 1, 2, 3, 4, 5, 6, 7].map fun j => Value.int .u8 ((UInt8.ofNat (h.toNat / 256 ^ j)).toNat : Int) := by
        simp only [lowL, List.map_cons, List.map_nil, Nat.div_div_eq_div_mul, Nat.reduceMul, Nat.reducePow, Nat.div_one, vB]
      simp only [List.map_cons, List.map_nil] at hl
      generalize ((UInt8.ofNat (h.toNat / 256 ^ 0)).toNat : Int) = n0 at e0 hl
      generalize ((UInt8.ofNat (h.toNat / 256 ^ 1)).toNat : Int) = n1 at e1 hl
      generalize ((UInt8.ofNat (h.toNat / 256 ^ 2)).toNat : Int) = n2 at e2 hl
      generalize ((UInt8.ofNat (h.toNat / 256 ^ 3)).toNat : Int) = n3 at e3 hl
      generalize ((UInt8.ofNat (h.toNat / 256 ^ 4)).toNat : Int) = n4 at e4 hl
      generalize ((UInt8.ofNat (h.toNat / 256 ^ 5)).toNat : Int) = n5 at e5 hl
      generalize ((UInt8.ofNat (h.toNat / 256 ^ 6)).toNat : Int) = n6 at e6 hl
      generalize ((UInt8.ofNat (h.toNat / 256 ^ 7)).toNat : Int) = n7 at e7 hl
      have hb := E.bel
      have hb0 := E.zero
      have HL := Lib.hid hl
      clear hl hh E hi hlt
      go_wp2_with fail
      refine bodyPost_ret (results_cell_row rfl _ _ w.heap.size _ _ _ _ rfl (set8 hb0 _ _ _ _ _ _ _ _) rfl rfl rfl) rfl ?_
      rw [HL.out]
      exact ⟨rfl, bel8 hb (Nat.le_refl _) _ _ _ _ _ _ _ _⟩
end Go.Proofs.Ytadhghikanjkeaa
