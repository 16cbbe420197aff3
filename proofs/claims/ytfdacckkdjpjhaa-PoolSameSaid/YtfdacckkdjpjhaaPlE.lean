/- Package pool: New. -/
import Derived.Test.YtfdacckkdjpjhaaPlD
namespace Go.Proofs.Ytfdacckkdjpjhaa
open Go.RowKit

def newPl (n : Nat) (t : Int) : Pl := ⟨t, 0, List.replicate n ⟨false, false, 0⟩, [], fun _ => none⟩
theorem wcells_len (l : List Wk) : (wcells l).length = 3 * l.length := by
  induction l with
  | nil => rfl
  | cons x l ih =>
    show (x.cells ++ wcells l).length = _
    rw [List.length_append, ih, List.length_cons, show x.cells.length = 3 from rfl]
    omega
theorem wcells_made (n : Nat) : (madeCells #[.bool false, .bool false, .int .i64 0] (n * 3)).toList = wcells (List.replicate n ⟨false, false, 0⟩) := by
  apply List.ext_getElem?
  intro i
  have hl : (madeCells #[Value.bool false, .bool false, .int .i64 0] (n * 3)).toList.length = n * 3 := by rw [Array.length_toList, size_madeCells]
  by_cases hi : i < n * 3
  · obtain ⟨q, r, hr, rfl⟩ : ∃ q r, r < 3 ∧ i = 3 * q + r := ⟨i / 3, i % 3, by omega, by omega⟩
    have hq : (List.replicate n (⟨false, false, 0⟩ : Wk))[q]? = some ⟨false, false, 0⟩ := by rw [List.getElem?_replicate, if_pos (by omega)]
    obtain ⟨h0, h1, h2⟩ := wcells_at _ _ _ hq
    have hm : (madeCells #[Value.bool false, .bool false, .int .i64 0] (n * 3)).toList[3 * q + r]? = some (#[Value.bool false, .bool false, .int .i64 0][r]!) := by
      rw [Array.getElem?_toList]
      unfold madeCells
      rw [Array.getElem?_map, Array.getElem?_range, if_pos hi]
      have : (3 * q + r) % 3 = r := by omega
      simp only [Option.map_some, Option.some.injEq]
      show #[Value.bool false, .bool false, .int .i64 0][(3 * q + r) % 3]! = _
      rw [this]
    rw [hm]
    rcases (show r = 0 ∨ r = 1 ∨ r = 2 by omega) with h3 | h3 | h3
    · subst h3; exact h0.symm
    · subst h3; exact h1.symm
    · subst h3; exact h2.symm
  · rw [List.getElem?_eq_none (by omega), List.getElem?_eq_none (by rw [wcells_len, List.length_replicate]; omega)]
theorem own_made {W : World} (base n : Nat) (hb : base ≤ W.heap.size) (hn : n ≤ maxLen) : (W.alloc (.cells (madeCells #[.bool false, .bool false, .int .i64 0] (n * 3)) 105)).ownsRow base 105 3 (.slice (some ⟨W.heap.size, 0, none⟩) n n) n (wcells (List.replicate n ⟨false, false, 0⟩)) := by
  rw [← wcells_made]
  exact ⟨by rw [Array.length_toList, size_madeCells], .inr ⟨W.heap.size, n, _, rfl, hb, World.alloc_heap_new W _, Nat.le_refl _, hn, size_madeCells _ _, List.take_of_length_le (by rw [Array.length_toList, size_madeCells]; exact Nat.le_refl _)⟩⟩
theorem newPl_ok {n : Nat} {t : Int} (hn : 1 ≤ n ∧ n ≤ 64) (ht : 1 ≤ t ∧ t ≤ 1099511627776) : POk (newPl n t) :=
  ⟨List.Pairwise.nil, fun k => ⟨(fun h => by cases h), (fun ⟨e, h⟩ => by cases h)⟩, (fun _ h => by cases h), Nat.zero_le _, ht, ⟨by show (0 : Int) ≤ 0; omega, by show (0 : Int) ≤ _; omega⟩, by show 1 ≤ (List.replicate n _).length ∧ (List.replicate n _).length ≤ 64; rw [List.length_replicate]; exact hn,
    (fun _ _ h => by cases h), (fun _ _ h => by cases h), fun i v hv hh => by
      have := List.mem_of_getElem? hv
      rw [(List.mem_replicate.1 this).2] at hh
      cases hh⟩
set_option maxRecDepth 20000 in
set_option maxHeartbeats 1000000 in
theorem pnew_any (n : Nat) (t : Int) (hn : 1 ≤ n ∧ n ≤ 64) (ht : 1 ≤ t ∧ t ≤ 1099511627776) (w : World) :
    Calls Try.prog 12 #[.int .i64 (n : Int), .int .i64 t] w fun e w' => ∃ p X, e = .returned (.tuple #[.pointer (some ⟨p, 0, none⟩), .int .i64 0]) ∧ PAt w' p X (fun _ => False) (newPl n t) ∧ (∀ b, X b → w.heap.size ≤ b) ∧ Below w.heap.size w w' := by
  have hmk : ∀ W : World, (Instr.makeSlice 95 (.int .i64 (n : Int)) (.int .i64 (n : Int))).run Try.prog W = .ok (.slice (some ⟨W.heap.size, 0, none⟩) n n) (W.alloc (.cells (madeCells #[.bool false, .bool false, .int .i64 0] (n * 3)) 105)) := fun W => by
    obtain ⟨i, hi, hz, hsz, hby⟩ := info_parts (show (Try.prog.info? 105).map (fun i => (i.zero, i.size, i.bytes)) = some (some (.agg #[.bool false, .bool false, .int .i64 0]), 3, 16) by kernel_rfl)
    have h := run_make (P := Try.prog) W 95 105 i _ Try.underlying95 hi hz .i64 .i64 (n : Int) (n : Int) (by omega) (Int.le_refl _) (by rw [hby]; omega) (by omega)
    rw [hsz, Int.toNat_natCast] at h
    simpa [Value.cells] using h
  have hmm := fun W : World => run_makeMap (P := Try.prog) 96 W
  have hn1 : ¬ (n : Int) < 1 := by omega
  have hn2 : ¬ 64 < (n : Int) := by omega
  have ht1 : ¬ t < 1 := by omega
  have ht2 : ¬ 1099511627776 < t := by omega
  have HN := Bx.mk hn
  have HT := Bx.mk ht
  clear hn ht
  go_enter Try.func12, Try.ntmps12
  go_wp2_with fail
  go_ret2
  have s1 : (w.alloc (.cells (madeCells #[.bool false, .bool false, .int .i64 0] (n * 3)) 105)).heap.size = w.heap.size + 1 := World.size_alloc _ _
  have O1 := own_made (W := w) 0 n (Nat.zero_le _) (by have := HN.out; unfold maxLen; omega)
  have B1 := (Below.refl w.heap.size w).alloc (Nat.le_refl _) (.cells (madeCells #[.bool false, .bool false, .int .i64 0] (n * 3)) 105)
  obtain ⟨w1, hw1⟩ : ∃ W, w.alloc (.cells (madeCells #[.bool false, .bool false, .int .i64 0] (n * 3)) 105) = W := ⟨_, rfl⟩
  rw [hw1] at s1 O1 B1 ⊢
  have M2 := MapF.new w1
  have B2 := (Below.refl w1.heap.size w1).alloc (Nat.le_refl _) (.map #[] 0)
  have s2 : (w1.alloc (.map #[] 0)).heap.size = w1.heap.size + 1 := World.size_alloc _ _
  obtain ⟨w2, hw2⟩ : ∃ W, w1.alloc (.map #[] 0) = W := ⟨_, rfl⟩
  rw [hw2] at s2 M2 B2 ⊢
  rw [s1] at M2 s2
  have hp := World.alloc_heap_new w2 (plO (newPl n t) (.slice (some ⟨w.heap.size, 0, none⟩) n n) (w.heap.size + 1))
  have B3 := (Below.refl w2.heap.size w2).alloc (Nat.le_refl _) (plO (newPl n t) (.slice (some ⟨w.heap.size, 0, none⟩) n n) (w.heap.size + 1))
  change (w2.alloc (.cells #[.int .i64 t, .int .i64 0, .slice (some ⟨w.heap.size, 0, none⟩) n n, .map (some (w.heap.size + 1))] 98)).heap[w2.heap.size]? = _ at hp
  change Below _ _ (w2.alloc (.cells #[.int .i64 t, .int .i64 0, .slice (some ⟨w.heap.size, 0, none⟩) n n, .map (some (w.heap.size + 1))] 98)) at B3
  have s3 : (w2.alloc (.cells #[.int .i64 t, .int .i64 0, .slice (some ⟨w.heap.size, 0, none⟩) n n, .map (some (w.heap.size + 1))] 98)).heap.size = w2.heap.size + 1 := World.size_alloc _ _
  obtain ⟨w3, hw3⟩ : ∃ W, w2.alloc (.cells #[.int .i64 t, .int .i64 0, .slice (some ⟨w.heap.size, 0, none⟩) n n, .map (some (w.heap.size + 1))] 98) = W := ⟨_, rfl⟩
  rw [hw3] at s3 hp B3 ⊢
  rw [s2] at hp
  have hl : (newPl n t).ws.length = n := List.length_replicate ..
  refine ⟨w.heap.size + 1 + 1, rfl, fun b => w.heap.size ≤ b ∧ b ≤ w.heap.size + 2, ⟨w.heap.size + 1, .slice (some ⟨w.heap.size, 0, none⟩) n n, fun _ => none, [], fun _ => 0, fun _ => .slice none 0 0, fun _ => .slice none 0 0, fun _ => .slice none 0 0,
    ⟨hp, M2.kept (B3.block _ (by omega)), by rw [hl]; exact own_below (own_below O1 (B2.mono (by omega))) B3, fun _ _ => rfl, (fun _ _ h => by cases h), (fun _ _ h => by cases h), (fun _ _ h => by cases h), (fun _ _ _ _ h => by cases h), (fun _ _ _ _ _ h => by cases h), ⟨by omega, by omega⟩, ⟨by omega, by omega⟩,
      fun b hb => (by have : w.heap.size = b := Option.some.inj hb; exact ⟨by omega, by omega⟩), fun _ _ h => h, fun b hb => (by have h2 : b ≤ w.heap.size + 2 := hb.2; omega), (fun _ h => h.elim), newPl_ok HN.out HT.out⟩⟩, fun b hb => hb.1, bel (bel B1 B2) B3⟩
end Go.Proofs.Ytfdacckkdjpjhaa
