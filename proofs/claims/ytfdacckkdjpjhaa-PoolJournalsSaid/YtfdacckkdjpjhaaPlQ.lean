/- Package pool: the example of the section. -/
import Derived.Test.YtfdacckkdjpjhaaPjA
namespace Go.Proofs.Ytfdacckkdjpjhaa
open Go.RowKit

/-- A block of another kind stays. -/
theorem PL.blk {W W' : World} {p : Nat} {X X' : Nat → Prop} {D : Pl} (h : PL W p X D) (S : DStep X X' W W') {b : Nat} {cs : Array Value} {e : TypeId} {fr : Nat × Nat} (hb : W.heap[b]? = some (.cells cs e fr)) (hk : plKind (some (some e)) = false) : W'.heap[b]? = some (.cells cs e fr) := by
  refine (S.block b (Array.getElem?_eq_some_iff.1 hb).1 (fun hx => ?_)).trans hb
  have h1 := h.kind b hx
  unfold kindAt at h1
  rw [hb] at h1
  change plKind (some (some e)) = true at h1
  rw [hk] at h1
  cases h1
def ld1 : Pl := ((newPl 2 10).add 2 []).2
def ld2 : Pl := (ld1.add 1 []).2
def ld3 : Pl := (ld2.ask 0 0).2
def ld4 : Pl := (ld3.ask 1 0).2
def ld5 : Pl := (ld4.answer 2 1 0 [] 5).2.2
def ld6 : Pl := (ld5.ask 1 10).2
def ld7 : Pl := (ld6.answer 1 0 0 [] 11).2.2
def ld8 : Pl := (ld7.answer 1 1 1 [] 12).2.2
def askOf (o : Asked) : Int × Nat × Int × Bool × Int := (o.id, o.body.length, o.n, o.is, o.err)
theorem le1 : ((newPl 2 10).add 2 []).1 = 0 := by kernel_rfl
theorem le2 : (ld1.add 1 []).1 = 0 := by kernel_rfl
theorem le3 : askOf (ld2.ask 0 0).1 = (1, 0, 0, true, 0) := by kernel_rfl
theorem le4 : askOf (ld3.ask 1 0).1 = (2, 0, 0, true, 0) := by kernel_rfl
theorem le5 : (ld4.answer 2 1 0 [] 5).1 = true ∧ (ld4.answer 2 1 0 [] 5).2.1 = 0 := ⟨by kernel_rfl, by kernel_rfl⟩
theorem le6 : askOf (ld5.ask 1 10).1 = (1, 0, 1, true, 0) := by kernel_rfl
theorem le7 : (ld6.answer 1 0 0 [] 11).1 = true ∧ (ld6.answer 1 0 0 [] 11).2.1 = 0 := ⟨by kernel_rfl, by kernel_rfl⟩
theorem le8 : (ld7.answer 1 1 1 [] 12).1 = false ∧ (ld7.answer 1 1 1 [] 12).2.1 = 0 := ⟨by kernel_rfl, by kernel_rfl⟩
theorem le9 : opn ld8 ld8.ids = [] := by kernel_rfl
/-- Ask, its results known. -/
theorem pl_askAt {p : Nat} {X : Nat → Prop} {D : Pl} (x t : Int) (w : World) (h : PL w p X D) {n : Nat} (hn : TL n D) (hn1 : n ≤ 1000000000) {id m err : Int} {k : Nat} {is : Bool} (ha : askOf (D.ask x t).1 = (id, k, m, is, err)) :
    Calls Try.prog 15 #[.pointer (some ⟨p, 0, none⟩), .int .i64 x, .int .i64 t] w fun e w' => ∃ a c X', e = .returned (.tuple #[.agg #[.int .i64 id, .slice a k c], .int .i64 m, .bool is, .int .i64 err]) ∧ PL w' p X' (D.ask x t).2 ∧ DStep X X' w w' := by
  refine (pl_ask x t w h hn hn1).mono ?_
  rintro e w' ⟨bv, X', rfl, hO, h1, S⟩
  unfold askOf at ha
  injection ha with a1 ha
  injection ha with a2 ha
  injection ha with a3 ha
  injection ha with a4 a5
  obtain ⟨a, c, rfl⟩ := own_isSlice hO
  exact ⟨a, c, X', by rw [a1, a2, a3, a4, a5], h1, S⟩
theorem bT (X : Nat → Prop) {B : Nat} {w W W' : World} {X' : Nat → Prop} (b : Below B w W) (S : DStep X X' W W') (hX : ∀ k, X k → B ≤ k) (hB : B ≤ w.heap.size) : Below B w W' ∧ ∀ k, X' k → B ≤ k :=
  ⟨b.trans (S.toBelow (by have := b.size; omega) hX), S.ge (by have := b.size; omega) hX⟩
set_option maxRecDepth 20000 in
set_option maxHeartbeats 2000000 in
theorem lives34_any (w : World) : Calls Try.prog 29 #[] w fun e w' => e = .returned (.bool true) ∧ Below w.heap.size w w' := by
  go_enter Try.func29, Try.ntmps29
  go_wp2_with fail
  refine (pl_new 2 10 (by decide) (by decide) w).mono ?_
  rintro e w1 ⟨p, X1, rfl, P1, hX1, B1⟩
  go_wp2_with fail
  refine (pl_add 2 (.slice none 0 0) [] w1 P1 (by decide) (Rv.nil _) (by decide)).mono ?_
  rintro e w2 ⟨rfl, X2, P2, S2⟩
  replace P2 : PL w2 p X2 ld1 := P2
  obtain ⟨B2, hX2⟩ := bT _ B1 S2 hX1 (Nat.le_refl _)
  rw [le1]
  clear P1 S2 hX1 B1
  go_wp2_with fail
  refine (pl_add 1 (.slice none 0 0) [] w2 P2 (by decide) (Rv.nil _) (by decide)).mono ?_
  rintro e w3 ⟨rfl, X3, P3, S3⟩
  replace P3 : PL w3 p X3 ld2 := P3
  obtain ⟨B3, hX3⟩ := bT _ B2 S3 hX2 (Nat.le_refl _)
  rw [le2]
  clear P2 S3 hX2 B2
  have T2 : TL 0 ld2 := ((TL.new 2 10).add 2 []).add 1 []
  have T3 : TL 1 ld3 := T2.ask 0 0
  have T4 : TL 2 ld4 := T3.ask 1 0
  have T5 : TL 2 ld5 := T4.answer 2 1 0 [] 5
  have HT2 := Bx.mk T2
  have HT3 := Bx.mk T3
  have HT5 := Bx.mk T5
  clear T2 T3 T4 T5
  go_wp2_with fail
  refine (pl_askAt 0 0 w3 P3 HT2.out (by decide) le3).mono ?_
  rintro e w4 ⟨a4, c4, X4, rfl, P4, S4⟩
  replace P4 : PL w4 p X4 ld3 := P4
  obtain ⟨B4, hX4⟩ := bT _ B3 S4 hX3 (Nat.le_refl _)
  clear P3 S4 hX3 B3
  go_upto_region 7 with fail
  have hb4 := World.alloc_heap_new w4 (.cells #[.int .i64 1, .slice a4 0 c4] 37)
  have P4 := P4.later ((Below.refl w4.heap.size w4).alloc (Nat.le_refl _) (.cells #[.int .i64 1, .slice a4 0 c4] 37))
  have B4 := B4.alloc B4.size (.cells #[.int .i64 1, .slice a4 0 c4] 37)
  generalize w4.alloc (.cells #[.int .i64 1, .slice a4 0 c4] 37) = w4a at *
  obtain ⟨b4, hbb4⟩ : ∃ b, w4.heap.size = b := ⟨_, rfl⟩
  rw [hbb4] at hb4 ⊢
  clear hbb4
  go_wp2_with fail
  refine (pl_askAt 1 0 w4a P4 HT3.out (by decide) le4).mono ?_
  rintro e w5 ⟨a5, c5, X5, rfl, P5, S5⟩
  replace P5 : PL w5 p X5 ld4 := P5
  have hb4 := P4.blk S5 hb4 (by decide)
  obtain ⟨B5, hX5⟩ := bT _ B4 S5 hX4 (Nat.le_refl _)
  clear P4 S5 hX4 B4
  go_upto_region 8 with fail
  have hb5 := World.alloc_heap_new w5 (.cells #[.int .i64 2, .slice a5 0 c5] 37)
  have BA := (Below.refl w5.heap.size w5).alloc (Nat.le_refl _) (.cells #[.int .i64 2, .slice a5 0 c5] 37)
  have P5 := P5.later BA
  have hb4 := (BA.block b4 (Array.getElem?_eq_some_iff.1 hb4).1).trans hb4
  have B5 := B5.alloc B5.size (.cells #[.int .i64 2, .slice a5 0 c5] 37)
  generalize w5.alloc (.cells #[.int .i64 2, .slice a5 0 c5] 37) = w5a at *
  obtain ⟨b5, hbb5⟩ : ∃ b, w5.heap.size = b := ⟨_, rfl⟩
  rw [hbb5] at hb5 ⊢
  clear hbb5 BA
  go_wp2_with fail
  refine (pl_answer 2 1 0 (.slice none 0 0) [] 5 w5a P5 (by decide) (Rv.nil _) (by decide) (fun b hb => by cases hb)).mono ?_
  rintro e w6 ⟨rfl, X6, P6, S6⟩
  replace P6 : PL w6 p X6 ld5 := P6
  have hb4 := P5.blk S6 hb4 (by decide)
  have hb5 := P5.blk S6 hb5 (by decide)
  obtain ⟨B6, hX6⟩ := bT _ B5 S6 hX5 (Nat.le_refl _)
  rw [le5.1, le5.2]
  clear P5 S6 hX5 B5
  go_wp2_with fail
  refine (pl_askAt 1 10 w6 P6 HT5.out (by decide) le6).mono ?_
  rintro e w7 ⟨a7, c7, X7, rfl, P7, S7⟩
  replace P7 : PL w7 p X7 ld6 := P7
  have hb4 := P6.blk S7 hb4 (by decide)
  have hb5 := P6.blk S7 hb5 (by decide)
  obtain ⟨B7, hX7⟩ := bT _ B6 S7 hX6 (Nat.le_refl _)
  clear P6 S7 hX6 B6
  go_upto_region 10 with fail
  have hb7 := World.alloc_heap_new w7 (.cells #[.int .i64 1, .slice a7 0 c7] 37)
  have BA := (Below.refl w7.heap.size w7).alloc (Nat.le_refl _) (.cells #[.int .i64 1, .slice a7 0 c7] 37)
  have P7 := P7.later BA
  have hb4 := (BA.block b4 (Array.getElem?_eq_some_iff.1 hb4).1).trans hb4
  have hb5 := (BA.block b5 (Array.getElem?_eq_some_iff.1 hb5).1).trans hb5
  have B7 := B7.alloc B7.size (.cells #[.int .i64 1, .slice a7 0 c7] 37)
  generalize w7.alloc (.cells #[.int .i64 1, .slice a7 0 c7] 37) = w7a at *
  obtain ⟨b7, hbb7⟩ : ∃ b, w7.heap.size = b := ⟨_, rfl⟩
  rw [hbb7] at hb7 ⊢
  clear hbb7 BA
  go_wp2_with fail
  refine (pl_answer 1 0 0 (.slice none 0 0) [] 11 w7a P7 (by decide) (Rv.nil _) (by decide) (fun b hb => by cases hb)).mono ?_
  rintro e w8 ⟨rfl, X8, P8, S8⟩
  replace P8 : PL w8 p X8 ld7 := P8
  have hb4 := P7.blk S8 hb4 (by decide)
  have hb5 := P7.blk S8 hb5 (by decide)
  have hb7 := P7.blk S8 hb7 (by decide)
  obtain ⟨B8, hX8⟩ := bT _ B7 S8 hX7 (Nat.le_refl _)
  rw [le7.1, le7.2]
  clear P7 S8 hX7 B7
  go_wp2_with fail
  refine (pl_answer 1 1 1 (.slice none 0 0) [] 12 w8 P8 (by decide) (Rv.nil _) (by decide) (fun b hb => by cases hb)).mono ?_
  rintro e w9 ⟨rfl, X9, P9, S9⟩
  replace P9 : PL w9 p X9 ld8 := P9
  have hb4 := P8.blk S9 hb4 (by decide)
  have hb5 := P8.blk S9 hb5 (by decide)
  have hb7 := P8.blk S9 hb7 (by decide)
  obtain ⟨B9, hX9⟩ := bT _ B8 S9 hX8 (Nat.le_refl _)
  rw [le8.1, le8.2]
  clear P8 S9 hX8 B8
  have q4 : w9.cell? ⟨b4, 0, none⟩ = some (.int .i64 1) := by simp [World.cell?, hb4]
  have q5 : w9.cell? ⟨b5, 0, none⟩ = some (.int .i64 2) := by simp [World.cell?, hb5]
  have q7 : w9.cell? ⟨b7, 0, none⟩ = some (.int .i64 1) := by simp [World.cell?, hb7]
  clear hb4 hb5 hb7
  have HO := Bx.mk (pl_open w9 P9)
  clear P9
  go_wp2_with fail
  refine HO.out.mono ?_
  rintro e w10 ⟨v, rfl, O10, B10⟩
  rw [le9] at O10
  obtain ⟨a, c, rfl⟩ := own_isSlice O10
  go_wp2_with fail
  go_ret
  exact ⟨rfl, bel B9 B10⟩
end Go.Proofs.Ytfdacckkdjpjhaa
