/- The model's Spoilt. -/
import Derived.Test.YtadhghikanjkeaaPrtS
import Derived.Deep.OwnRows
namespace Go.Proofs.Ytadhghikanjkeaa
open Go.RowKit

/-- Some message, made from another: its bodies are read from here on. -/
def SpPost (w : World) (en : Ending) (w' : World) : Prop := ∃ (m' : Msg) (ab af : Option Addr) (cb cf : Nat), en = .returned (msgV m' ab af cb cf) ∧ Cells6 w' m' ab af cb cf ∧ Below w.heap.size w w'

theorem own_emptyN (w : World) (e : TypeId) (size : Nat) : (w.alloc (.cells #[] e)).ownsRow w.heap.size e size (.slice (some ⟨w.heap.size, 0, none⟩) 0 0) 0 [] :=
  ⟨by simp, .inr ⟨w.heap.size, 0, #[], rfl, Nat.le_refl _, World.alloc_heap_new w _, Nat.le_refl _, Nat.zero_le _, by simp, by simp⟩⟩
theorem rv_zeros (W : World) (g n : Nat) (hn : n ≤ maxLen) (h : W.heap[g]? = some (.cells (madeCells #[.int .u8 0] n) 5 (0, 0))) : Rv W (.slice (some ⟨g, 0, none⟩) n n) n ((List.replicate n (0 : UInt8)).map vB) :=
  Rv.of_cells (Nat.le_refl _) hn (fun i u hu => by
    have hl := toList_madeCells_one (.int .u8 0) n
    unfold World.cell?
    rw [h]
    simp only [List.map_replicate] at hu
    have e : vB 0 = .int .u8 0 := rfl
    rw [e, ← hl, Array.getElem?_toList] at hu
    simpa using hu)
theorem fz_all (n : Nat) (u : Value) (hu : u ∈ fcells (List.replicate n (⟨0, 0, 0⟩ : F3))) : u = .int .i64 0 := by
  simp only [fcells, List.mem_flatMap, List.mem_replicate] at hu
  obtain ⟨f, ⟨_, rfl⟩, hf⟩ := hu
  simp only [F3.cells, List.mem_cons, List.not_mem_nil, or_false] at hf
  rcases hf with rfl | rfl | rfl <;> rfl
theorem rv_zerosF (W : World) (g n : Nat) (hn : n ≤ maxLen) (h : W.heap[g]? = some (.cells (madeCells #[.int .i64 0, .int .i64 0, .int .i64 0] (n * 3)) 79 (0, 0))) : Rv W (.slice (some ⟨g, 0, none⟩) n n) n (fcells (List.replicate n (⟨0, 0, 0⟩ : F3))) :=
  Rv.of_cells (Nat.le_refl _) hn (fun i u hu => by
    have hi := (List.getElem?_eq_some_iff.1 hu).1
    rw [fcells_len, List.length_replicate] at hi
    have hu0 := fz_all n u (List.mem_of_getElem? hu)
    subst hu0
    unfold World.cell?
    rw [h]
    have hm : (madeCells #[Value.int .i64 0, .int .i64 0, .int .i64 0] (n * 3))[i]? = some (.int .i64 0) := by
      unfold madeCells
      rw [Array.getElem?_map, Array.getElem?_range, if_pos hi]
      simp only [Option.map_some]
      have h3 : i % 3 < 3 := Nat.mod_lt _ (by omega)
      generalize i % 3 = q at *
      obtain rfl | rfl | rfl : q = 0 ∨ q = 1 ∨ q = 2 := by omega
      all_goals rfl
    simpa using hm)

set_option maxRecDepth 20000 in
set_option maxHeartbeats 2000000 in
theorem spoilt_any (m : Msg) (ab af : Option Addr) (cb cf : Nat) (how by' : Int) (w : World) (hm : Cells6 w m ab af cb cf) (hh : -9223372036854775808 ≤ how ∧ how ≤ 9223372036854775807) (hb : -9223372036854775808 ≤ by' ∧ by' ≤ 9223372036854775807) :
    Calls Try.prog 9 #[msgV m ab af cb cf, .int .i64 how, .int .i64 by'] w (SpPost w) := by
  have HH := Lib.hid hh
  have HB := Lib.hid hb
  clear hh hb
  unfold msgV
  go_enter Try.func9, Try.ntmps9
  go_wp2_with fail
  refine (around_nat how 8 (by omega) HH.out.1 HH.out.2 (by omega) _).mono ?_
  rintro e w1 ⟨k, hk, _, rfl, rfl⟩
  obtain rfl | rfl | rfl | rfl | rfl | rfl | rfl | rfl : k = 0 ∨ k = 1 ∨ k = 2 ∨ k = 3 ∨ k = 4 ∨ k = 5 ∨ k = 6 ∨ k = 7 := by omega
  · go_wp2_with fail
    have hn := World.alloc_heap_new (w.alloc (.cells #[.int .i64 by', .int .i64 m.c, .int .i64 m.v, .int .i64 m.o, (.slice ab m.body.length cb), (.slice af m.fnd.length cf)] 27)) (.cells #[.int .i64 by', .int .i64 m.c, .int .i64 m.v, .int .i64 m.o, (.slice ab m.body.length cb), (.slice af m.fnd.length cf)] 27)
    rw [World.size_alloc] at hn
    have B : Below w.heap.size w ((w.alloc (.cells #[.int .i64 by', .int .i64 m.c, .int .i64 m.v, .int .i64 m.o, (.slice ab m.body.length cb), (.slice af m.fnd.length cf)] 27)).alloc (.cells #[.int .i64 by', .int .i64 m.c, .int .i64 m.v, .int .i64 m.o, (.slice ab m.body.length cb), (.slice af m.fnd.length cf)] 27)) := ((Below.refl _ w).alloc (Nat.le_refl _) _).alloc (by simp) _
    refine bodyPost_ret (results_cell_row rfl _ _ (w.heap.size + 1) _ _ _ _ rfl hn rfl rfl rfl) rfl ?_
    exact ⟨⟨by', m.c, m.v, m.o, m.body, m.fnd⟩, ab, af, cb, cf, rfl, ⟨hm.body.below B, hm.fnd.below B⟩, B⟩
  · go_wp2_with fail
    have hn := World.alloc_heap_new (w.alloc (.cells #[.int .i64 m.k, .int .i64 by', .int .i64 m.v, .int .i64 m.o, (.slice ab m.body.length cb), (.slice af m.fnd.length cf)] 27)) (.cells #[.int .i64 m.k, .int .i64 by', .int .i64 m.v, .int .i64 m.o, (.slice ab m.body.length cb), (.slice af m.fnd.length cf)] 27)
    rw [World.size_alloc] at hn
    have B : Below w.heap.size w ((w.alloc (.cells #[.int .i64 m.k, .int .i64 by', .int .i64 m.v, .int .i64 m.o, (.slice ab m.body.length cb), (.slice af m.fnd.length cf)] 27)).alloc (.cells #[.int .i64 m.k, .int .i64 by', .int .i64 m.v, .int .i64 m.o, (.slice ab m.body.length cb), (.slice af m.fnd.length cf)] 27)) := ((Below.refl _ w).alloc (Nat.le_refl _) _).alloc (by simp) _
    refine bodyPost_ret (results_cell_row rfl _ _ (w.heap.size + 1) _ _ _ _ rfl hn rfl rfl rfl) rfl ?_
    exact ⟨⟨m.k, by', m.v, m.o, m.body, m.fnd⟩, ab, af, cb, cf, rfl, ⟨hm.body.below B, hm.fnd.below B⟩, B⟩
  · go_wp2_with fail
    have hn := World.alloc_heap_new (w.alloc (.cells #[.int .i64 m.k, .int .i64 m.c, .int .i64 by', .int .i64 m.o, (.slice ab m.body.length cb), (.slice af m.fnd.length cf)] 27)) (.cells #[.int .i64 m.k, .int .i64 m.c, .int .i64 by', .int .i64 m.o, (.slice ab m.body.length cb), (.slice af m.fnd.length cf)] 27)
    rw [World.size_alloc] at hn
    have B : Below w.heap.size w ((w.alloc (.cells #[.int .i64 m.k, .int .i64 m.c, .int .i64 by', .int .i64 m.o, (.slice ab m.body.length cb), (.slice af m.fnd.length cf)] 27)).alloc (.cells #[.int .i64 m.k, .int .i64 m.c, .int .i64 by', .int .i64 m.o, (.slice ab m.body.length cb), (.slice af m.fnd.length cf)] 27)) := ((Below.refl _ w).alloc (Nat.le_refl _) _).alloc (by simp) _
    refine bodyPost_ret (results_cell_row rfl _ _ (w.heap.size + 1) _ _ _ _ rfl hn rfl rfl rfl) rfl ?_
    exact ⟨⟨m.k, m.c, by', m.o, m.body, m.fnd⟩, ab, af, cb, cf, rfl, ⟨hm.body.below B, hm.fnd.below B⟩, B⟩
  · go_wp2_with fail
    have hn := World.alloc_heap_new (w.alloc (.cells #[.int .i64 m.k, .int .i64 m.c, .int .i64 m.v, .int .i64 by', (.slice ab m.body.length cb), (.slice af m.fnd.length cf)] 27)) (.cells #[.int .i64 m.k, .int .i64 m.c, .int .i64 m.v, .int .i64 by', (.slice ab m.body.length cb), (.slice af m.fnd.length cf)] 27)
    rw [World.size_alloc] at hn
    have B : Below w.heap.size w ((w.alloc (.cells #[.int .i64 m.k, .int .i64 m.c, .int .i64 m.v, .int .i64 by', (.slice ab m.body.length cb), (.slice af m.fnd.length cf)] 27)).alloc (.cells #[.int .i64 m.k, .int .i64 m.c, .int .i64 m.v, .int .i64 by', (.slice ab m.body.length cb), (.slice af m.fnd.length cf)] 27)) := ((Below.refl _ w).alloc (Nat.le_refl _) _).alloc (by simp) _
    refine bodyPost_ret (results_cell_row rfl _ _ (w.heap.size + 1) _ _ _ _ rfl hn rfl rfl rfl) rfl ?_
    exact ⟨⟨m.k, m.c, m.v, by', m.body, m.fnd⟩, ab, af, cb, cf, rfl, ⟨hm.body.below B, hm.fnd.below B⟩, B⟩
  · go_wp2_with fail
    refine (around_nat by' 3 (by omega) HB.out.1 HB.out.2 (by omega) _).mono ?_
    rintro e w1 ⟨j, hj, _, rfl, rfl⟩
    have hmk : ∀ W : World, (Instr.makeSlice 23 (.int .i64 (65535 + (j : Int))) (.int .i64 (65535 + (j : Int)))).run Try.prog W = .ok (.slice (some ⟨W.heap.size, 0, none⟩) (65535 + j) (65535 + j)) (W.alloc (.cells (madeCells #[.int .u8 0] (65535 + j)) 5)) := fun W => by
      obtain ⟨i, hi, hz, hsz, hby⟩ := info_parts Try.infoB
      have h := run_make (P := Try.prog) W 23 5 i _ Try.underlying23 hi hz .i64 .i64 (65535 + (j : Int)) (65535 + (j : Int)) (by omega) (Int.le_refl _) (by rw [hby]; omega) (by omega)
      rw [hsz, show ((65535 : Int) + (j : Int)).toNat = 65535 + j from by omega] at h
      simpa [Value.cells] using h
    go_wp2_with fail
    have hM : (((w.alloc (.cells #[.int .i64 m.k, .int .i64 m.c, .int .i64 m.v, .int .i64 m.o, (.slice (some ⟨w.heap.size + 1 + 1, 0, none⟩) (65535 + j) (65535 + j)), (.slice af m.fnd.length cf)] 27)).alloc (.cells #[.int .i64 m.k, .int .i64 m.c, .int .i64 m.v, .int .i64 m.o, (.slice (some ⟨w.heap.size + 1 + 1, 0, none⟩) (65535 + j) (65535 + j)), (.slice af m.fnd.length cf)] 27)).alloc (.cells (madeCells #[.int .u8 0] (65535 + j)) 5)).heap[w.heap.size + 1 + 1]? = some (.cells (madeCells #[.int .u8 0] (65535 + j)) 5) := by
      have := World.alloc_heap_new ((w.alloc (.cells #[.int .i64 m.k, .int .i64 m.c, .int .i64 m.v, .int .i64 m.o, (.slice (some ⟨w.heap.size + 1 + 1, 0, none⟩) (65535 + j) (65535 + j)), (.slice af m.fnd.length cf)] 27)).alloc (.cells #[.int .i64 m.k, .int .i64 m.c, .int .i64 m.v, .int .i64 m.o, (.slice (some ⟨w.heap.size + 1 + 1, 0, none⟩) (65535 + j) (65535 + j)), (.slice af m.fnd.length cf)] 27)) (.cells (madeCells #[.int .u8 0] (65535 + j)) 5)
      simp only [World.size_alloc] at this
      exact this
    have hR : (((w.alloc (.cells #[.int .i64 m.k, .int .i64 m.c, .int .i64 m.v, .int .i64 m.o, (.slice (some ⟨w.heap.size + 1 + 1, 0, none⟩) (65535 + j) (65535 + j)), (.slice af m.fnd.length cf)] 27)).alloc (.cells #[.int .i64 m.k, .int .i64 m.c, .int .i64 m.v, .int .i64 m.o, (.slice (some ⟨w.heap.size + 1 + 1, 0, none⟩) (65535 + j) (65535 + j)), (.slice af m.fnd.length cf)] 27)).alloc (.cells (madeCells #[.int .u8 0] (65535 + j)) 5)).heap[w.heap.size + 1]? = some (.cells #[.int .i64 m.k, .int .i64 m.c, .int .i64 m.v, .int .i64 m.o, (.slice (some ⟨w.heap.size + 1 + 1, 0, none⟩) (65535 + j) (65535 + j)), (.slice af m.fnd.length cf)] 27) := by
      have := World.alloc_heap_new (w.alloc (.cells #[.int .i64 m.k, .int .i64 m.c, .int .i64 m.v, .int .i64 m.o, (.slice (some ⟨w.heap.size + 1 + 1, 0, none⟩) (65535 + j) (65535 + j)), (.slice af m.fnd.length cf)] 27)) (.cells #[.int .i64 m.k, .int .i64 m.c, .int .i64 m.v, .int .i64 m.o, (.slice (some ⟨w.heap.size + 1 + 1, 0, none⟩) (65535 + j) (65535 + j)), (.slice af m.fnd.length cf)] 27)
      rw [World.size_alloc] at this
      exact (Below.heap_alloc _ _ _ (by simp)).trans this
    have B : Below w.heap.size w (((w.alloc (.cells #[.int .i64 m.k, .int .i64 m.c, .int .i64 m.v, .int .i64 m.o, (.slice (some ⟨w.heap.size + 1 + 1, 0, none⟩) (65535 + j) (65535 + j)), (.slice af m.fnd.length cf)] 27)).alloc (.cells #[.int .i64 m.k, .int .i64 m.c, .int .i64 m.v, .int .i64 m.o, (.slice (some ⟨w.heap.size + 1 + 1, 0, none⟩) (65535 + j) (65535 + j)), (.slice af m.fnd.length cf)] 27)).alloc (.cells (madeCells #[.int .u8 0] (65535 + j)) 5)) := (((Below.refl _ w).alloc (Nat.le_refl _) _).alloc (by simp) _).alloc (by simp; omega) _
    refine bodyPost_ret (results_cell_row rfl _ _ (w.heap.size + 1) _ _ _ _ rfl hR rfl rfl rfl) rfl ?_
    exact ⟨⟨m.k, m.c, m.v, m.o, List.replicate (65535 + j) 0, m.fnd⟩, some ⟨w.heap.size + 1 + 1, 0, none⟩, af, 65535 + j, cf, by simp [msgV], ⟨by rw [show (List.replicate (65535 + j) (0 : UInt8)).length = 65535 + j from List.length_replicate ..]; exact rv_zeros _ _ _ (by unfold maxLen; omega) hM, hm.fnd.below B⟩, B⟩
  · go_wp2_with fail
    refine (around_nat by' 3 (by omega) HB.out.1 HB.out.2 (by omega) _).mono ?_
    rintro e w1 ⟨j, hj, _, rfl, rfl⟩
    have hmk : ∀ W : World, (Instr.makeSlice 25 (.int .i64 (1023 + (j : Int))) (.int .i64 (1023 + (j : Int)))).run Try.prog W = .ok (.slice (some ⟨W.heap.size, 0, none⟩) (1023 + j) (1023 + j)) (W.alloc (.cells (madeCells #[.int .i64 0, .int .i64 0, .int .i64 0] ((1023 + j) * 3)) 79)) := fun W => by
      obtain ⟨i, hi, hz, hsz, hby⟩ := info_parts Try.infoF
      have h := run_make (P := Try.prog) W 25 79 i _ Try.underlying25 hi hz .i64 .i64 (1023 + (j : Int)) (1023 + (j : Int)) (by omega) (Int.le_refl _) (by rw [hby]; omega) (by omega)
      rw [hsz, show ((1023 : Int) + (j : Int)).toNat = 1023 + j from by omega] at h
      simpa [Value.cells] using h
    go_wp2_with fail
    have hM : (((w.alloc (.cells #[.int .i64 m.k, .int .i64 m.c, .int .i64 m.v, .int .i64 m.o, (.slice ab m.body.length cb), (.slice (some ⟨w.heap.size + 1 + 1, 0, none⟩) (1023 + j) (1023 + j))] 27)).alloc (.cells #[.int .i64 m.k, .int .i64 m.c, .int .i64 m.v, .int .i64 m.o, (.slice ab m.body.length cb), (.slice (some ⟨w.heap.size + 1 + 1, 0, none⟩) (1023 + j) (1023 + j))] 27)).alloc (.cells (madeCells #[.int .i64 0, .int .i64 0, .int .i64 0] ((1023 + j) * 3)) 79)).heap[w.heap.size + 1 + 1]? = some (.cells (madeCells #[.int .i64 0, .int .i64 0, .int .i64 0] ((1023 + j) * 3)) 79) := by
      have := World.alloc_heap_new ((w.alloc (.cells #[.int .i64 m.k, .int .i64 m.c, .int .i64 m.v, .int .i64 m.o, (.slice ab m.body.length cb), (.slice (some ⟨w.heap.size + 1 + 1, 0, none⟩) (1023 + j) (1023 + j))] 27)).alloc (.cells #[.int .i64 m.k, .int .i64 m.c, .int .i64 m.v, .int .i64 m.o, (.slice ab m.body.length cb), (.slice (some ⟨w.heap.size + 1 + 1, 0, none⟩) (1023 + j) (1023 + j))] 27)) (.cells (madeCells #[.int .i64 0, .int .i64 0, .int .i64 0] ((1023 + j) * 3)) 79)
      simp only [World.size_alloc] at this
      exact this
    have hR : (((w.alloc (.cells #[.int .i64 m.k, .int .i64 m.c, .int .i64 m.v, .int .i64 m.o, (.slice ab m.body.length cb), (.slice (some ⟨w.heap.size + 1 + 1, 0, none⟩) (1023 + j) (1023 + j))] 27)).alloc (.cells #[.int .i64 m.k, .int .i64 m.c, .int .i64 m.v, .int .i64 m.o, (.slice ab m.body.length cb), (.slice (some ⟨w.heap.size + 1 + 1, 0, none⟩) (1023 + j) (1023 + j))] 27)).alloc (.cells (madeCells #[.int .i64 0, .int .i64 0, .int .i64 0] ((1023 + j) * 3)) 79)).heap[w.heap.size + 1]? = some (.cells #[.int .i64 m.k, .int .i64 m.c, .int .i64 m.v, .int .i64 m.o, (.slice ab m.body.length cb), (.slice (some ⟨w.heap.size + 1 + 1, 0, none⟩) (1023 + j) (1023 + j))] 27) := by
      have := World.alloc_heap_new (w.alloc (.cells #[.int .i64 m.k, .int .i64 m.c, .int .i64 m.v, .int .i64 m.o, (.slice ab m.body.length cb), (.slice (some ⟨w.heap.size + 1 + 1, 0, none⟩) (1023 + j) (1023 + j))] 27)) (.cells #[.int .i64 m.k, .int .i64 m.c, .int .i64 m.v, .int .i64 m.o, (.slice ab m.body.length cb), (.slice (some ⟨w.heap.size + 1 + 1, 0, none⟩) (1023 + j) (1023 + j))] 27)
      rw [World.size_alloc] at this
      exact (Below.heap_alloc _ _ _ (by simp)).trans this
    have B : Below w.heap.size w (((w.alloc (.cells #[.int .i64 m.k, .int .i64 m.c, .int .i64 m.v, .int .i64 m.o, (.slice ab m.body.length cb), (.slice (some ⟨w.heap.size + 1 + 1, 0, none⟩) (1023 + j) (1023 + j))] 27)).alloc (.cells #[.int .i64 m.k, .int .i64 m.c, .int .i64 m.v, .int .i64 m.o, (.slice ab m.body.length cb), (.slice (some ⟨w.heap.size + 1 + 1, 0, none⟩) (1023 + j) (1023 + j))] 27)).alloc (.cells (madeCells #[.int .i64 0, .int .i64 0, .int .i64 0] ((1023 + j) * 3)) 79)) := (((Below.refl _ w).alloc (Nat.le_refl _) _).alloc (by simp) _).alloc (by simp; omega) _
    refine bodyPost_ret (results_cell_row rfl _ _ (w.heap.size + 1) _ _ _ _ rfl hR rfl rfl rfl) rfl ?_
    exact ⟨⟨m.k, m.c, m.v, m.o, m.body, List.replicate (1023 + j) ⟨0, 0, 0⟩⟩, ab, some ⟨w.heap.size + 1 + 1, 0, none⟩, cb, 1023 + j, by simp [msgV], ⟨hm.body.below B, by rw [show (List.replicate (1023 + j) (⟨0, 0, 0⟩ : F3)).length = 1023 + j from List.length_replicate ..]; exact rv_zerosF _ _ _ (by unfold maxLen; omega) hM⟩, B⟩
  · have hO : ((((w.alloc (.cells #[.int .i64 m.k, .int .i64 m.c, .int .i64 m.v, .int .i64 m.o, (.slice ab m.body.length cb), (.slice af m.fnd.length cf)] 27)).alloc (.cells #[.int .i64 0, .int .i64 0, .int .i64 0, .int .i64 0, .slice none 0 0, .slice none 0 0] 27)).alloc (.cells #[] 79)).alloc (.cells #[.int .i64 1, .int .i64 by', .int .i64 3] 79)).ownsRow (w.heap.size + 1 + 1) 79 3 (.slice (some ⟨w.heap.size + 1 + 1, 0, none⟩) 0 0) 0 [] := by
      have := (own_emptyN ((w.alloc (.cells #[.int .i64 m.k, .int .i64 m.c, .int .i64 m.v, .int .i64 m.o, (.slice ab m.body.length cb), (.slice af m.fnd.length cf)] 27)).alloc (.cells #[.int .i64 0, .int .i64 0, .int .i64 0, .int .i64 0, .slice none 0 0, .slice none 0 0] 27)) 79 3).alloc (.cells #[.int .i64 1, .int .i64 by', .int .i64 3] 79)
      simp only [World.size_alloc] at this
      exact this
    have hX : Rv ((((w.alloc (.cells #[.int .i64 m.k, .int .i64 m.c, .int .i64 m.v, .int .i64 m.o, (.slice ab m.body.length cb), (.slice af m.fnd.length cf)] 27)).alloc (.cells #[.int .i64 0, .int .i64 0, .int .i64 0, .int .i64 0, .slice none 0 0, .slice none 0 0] 27)).alloc (.cells #[] 79)).alloc (.cells #[.int .i64 1, .int .i64 by', .int .i64 3] 79)) (.slice (some ⟨w.heap.size + 1 + 1 + 1, 0, none⟩) 1 1) 1 [.int .i64 1, .int .i64 by', .int .i64 3] := Rv.of_cells (by omega) (by unfold maxLen; omega) (fun i u hu => by
      have hn := World.alloc_heap_new (((w.alloc (.cells #[.int .i64 m.k, .int .i64 m.c, .int .i64 m.v, .int .i64 m.o, (.slice ab m.body.length cb), (.slice af m.fnd.length cf)] 27)).alloc (.cells #[.int .i64 0, .int .i64 0, .int .i64 0, .int .i64 0, .slice none 0 0, .slice none 0 0] 27)).alloc (.cells #[] 79)) (.cells #[.int .i64 1, .int .i64 by', .int .i64 3] 79)
      simp only [World.size_alloc] at hn
      unfold World.cell?
      rw [hn]
      simpa using hu)
    have B3 : Below w.heap.size w ((((w.alloc (.cells #[.int .i64 m.k, .int .i64 m.c, .int .i64 m.v, .int .i64 m.o, (.slice ab m.body.length cb), (.slice af m.fnd.length cf)] 27)).alloc (.cells #[.int .i64 0, .int .i64 0, .int .i64 0, .int .i64 0, .slice none 0 0, .slice none 0 0] 27)).alloc (.cells #[] 79)).alloc (.cells #[.int .i64 1, .int .i64 by', .int .i64 3] 79)) := ((((Below.refl _ w).alloc (Nat.le_refl _) _).alloc (by simp) _).alloc (by simp; omega) _).alloc (by simp; omega) _
    have kA3 : ((((w.alloc (.cells #[.int .i64 m.k, .int .i64 m.c, .int .i64 m.v, .int .i64 m.o, (.slice ab m.body.length cb), (.slice af m.fnd.length cf)] 27)).alloc (.cells #[.int .i64 0, .int .i64 0, .int .i64 0, .int .i64 0, .slice none 0 0, .slice none 0 0] 27)).alloc (.cells #[] 79)).alloc (.cells #[.int .i64 1, .int .i64 by', .int .i64 3] 79)).heap[w.heap.size]? = some (.cells #[.int .i64 m.k, .int .i64 m.c, .int .i64 m.v, .int .i64 m.o, (.slice ab m.body.length cb), (.slice af m.fnd.length cf)] 27) := (Below.heap_alloc _ _ _ (by simp only [World.size_alloc]; omega)).trans ((Below.heap_alloc _ _ _ (by simp only [World.size_alloc]; omega)).trans ((Below.heap_alloc _ _ _ (by simp only [World.size_alloc]; omega)).trans (World.alloc_heap_new w _)))
    have kR3 : ((((w.alloc (.cells #[.int .i64 m.k, .int .i64 m.c, .int .i64 m.v, .int .i64 m.o, (.slice ab m.body.length cb), (.slice af m.fnd.length cf)] 27)).alloc (.cells #[.int .i64 0, .int .i64 0, .int .i64 0, .int .i64 0, .slice none 0 0, .slice none 0 0] 27)).alloc (.cells #[] 79)).alloc (.cells #[.int .i64 1, .int .i64 by', .int .i64 3] 79)).heap[w.heap.size + 1]? = some (.cells #[.int .i64 0, .int .i64 0, .int .i64 0, .int .i64 0, .slice none 0 0, .slice none 0 0] 27) := (Below.heap_alloc _ _ _ (by simp only [World.size_alloc]; omega)).trans ((Below.heap_alloc _ _ _ (by simp only [World.size_alloc]; omega)).trans (by have := World.alloc_heap_new (w.alloc (.cells #[.int .i64 m.k, .int .i64 m.c, .int .i64 m.v, .int .i64 m.o, (.slice ab m.body.length cb), (.slice af m.fnd.length cf)] 27)) (.cells #[.int .i64 0, .int .i64 0, .int .i64 0, .int .i64 0, .slice none 0 0, .slice none 0 0] 27); rwa [World.size_alloc] at this))
    go_wp2_with (at_builtin; refine wpList_app2 _ rfl _ _ rfl Try.elF (w.heap.size + 1 + 1) _ 0 _ rfl hO _ 1 [.int .i64 1, .int .i64 by', .int .i64 3] rfl hX rfl (by simp [Value.oneCell']) (by omega) (by simp only [World.size_alloc]; omega) ?_; intro v4 w4 O4 g4 _; refine later ?_)
    have gb : Below (w.heap.size + 1 + 1) ((((w.alloc (.cells #[.int .i64 m.k, .int .i64 m.c, .int .i64 m.v, .int .i64 m.o, (.slice ab m.body.length cb), (.slice af m.fnd.length cf)] 27)).alloc (.cells #[.int .i64 0, .int .i64 0, .int .i64 0, .int .i64 0, .slice none 0 0, .slice none 0 0] 27)).alloc (.cells #[] 79)).alloc (.cells #[.int .i64 1, .int .i64 by', .int .i64 3] 79)) w4 := ⟨g4.os, g4.tape, g4.output, g4.size, fun k hk => g4.block k (by simp only [World.size_alloc]; omega) (fun e => by
      have e2 : w.heap.size + 1 + 1 = k := by simpa [Act.eval, Value.ownBlock] using e.symm
      omega)⟩
    have B4 : Below w.heap.size w w4 := B3.trans (gb.mono (by omega))
    have kA := (gb.block w.heap.size (by omega)).trans kA3
    have kR := (gb.block (w.heap.size + 1) (by omega)).trans kR3
    obtain ⟨a4, c4, rfl, _, _⟩ := (Rv.of_own O4).opened
    have j0 : w4.cell? ⟨w.heap.size, 0, none⟩ = some (.int .i64 m.k) := by simp [World.cell?, kA]
    have j1 : w4.cell? ⟨w.heap.size, 1, none⟩ = some (.int .i64 m.c) := by simp [World.cell?, kA]
    have j2 : w4.cell? ⟨w.heap.size, 2, none⟩ = some (.int .i64 m.v) := by simp [World.cell?, kA]
    have j3 : w4.cell? ⟨w.heap.size, 3, none⟩ = some (.int .i64 m.o) := by simp [World.cell?, kA]
    have j4 : w4.cell? ⟨w.heap.size, 4, none⟩ = some (.slice ab m.body.length cb) := by simp [World.cell?, kA]
    have j5 : w4.cell? ⟨w.heap.size, 5, none⟩ = some (.slice af m.fnd.length cf) := by simp [World.cell?, kA]
    have z0 : w4.cell? ⟨w.heap.size + 1, 0, none⟩ = some (.int .i64 0) := by simp [World.cell?, kR]
    have z1 : w4.cell? ⟨w.heap.size + 1, 1, none⟩ = some (.int .i64 0) := by simp [World.cell?, kR]
    have z2 : w4.cell? ⟨w.heap.size + 1, 2, none⟩ = some (.int .i64 0) := by simp [World.cell?, kR]
    have z3 : w4.cell? ⟨w.heap.size + 1, 3, none⟩ = some (.int .i64 0) := by simp [World.cell?, kR]
    have z4 : w4.cell? ⟨w.heap.size + 1, 4, none⟩ = some (.slice none 0 0) := by simp [World.cell?, kR]
    have z5 : w4.cell? ⟨w.heap.size + 1, 5, none⟩ = some (.slice none 0 0) := by simp [World.cell?, kR]
    have jf : ∀ j, w4.frozen? ⟨w.heap.size, j, none⟩ = false := fun j => by simp [World.frozen?, kA]
    have zf : ∀ j, w4.frozen? ⟨w.heap.size + 1, j, none⟩ = false := fun j => by simp [World.frozen?, kR]
    have KR := Lib.hid kR
    have R4 := Rv.of_own O4
    have l4 := O4.lt
    rw [Nat.zero_add, List.nil_append] at R4
    clear g4 gb B3 hO hX kA3 kR3 kA kR O4
    refine Later.in ?_
    go_wp2_with fail
    have hR5 := (Below.heap_setCell w4 ⟨w.heap.size, 5, none⟩ (.slice a4 (0 + 1) c4) (w.heap.size + 1) (by simp)).trans KR.out
    have B5 : Below w.heap.size w (w4.setCell ⟨w.heap.size, 5, none⟩ (.slice a4 (0 + 1) c4)) := B4.setCell (p := ⟨w.heap.size, 5, none⟩) (Nat.le_refl _) _
    refine bodyPost_ret (results_cell_row rfl _ _ (w.heap.size + 1) _ _ _ _ rfl (set6 hR5 _ _ _ _ _ _) rfl rfl rfl) rfl ?_
    refine ⟨⟨m.k, m.c, m.v, m.o, m.body, [⟨1, by', 3⟩]⟩, ab, a4, cb, c4, rfl, ⟨hm.body.below (bel6 B5 (Nat.le_succ _) _ _ _ _ _ _), ?_⟩, bel6 B5 (Nat.le_succ _) _ _ _ _ _ _⟩
    exact rvFar (rvFar R4 (fun k hk => Below.heap_setCell _ _ _ _ hk) (fun e => by have := (l4 _ e).1; simp only at this; omega)) (fun k hk => far6 hk _ _ _ _ _ _) (fun e => by have := (l4 _ e).1; omega)
  · have hO : ((((w.alloc (.cells #[.int .i64 m.k, .int .i64 m.c, .int .i64 m.v, .int .i64 m.o, (.slice ab m.body.length cb), (.slice af m.fnd.length cf)] 27)).alloc (.cells #[.int .i64 0, .int .i64 0, .int .i64 0, .int .i64 0, .slice none 0 0, .slice none 0 0] 27)).alloc (.cells #[] 79)).alloc (.cells #[.int .i64 by', .int .i64 2, .int .i64 (wrap64 (-by'))] 79)).ownsRow (w.heap.size + 1 + 1) 79 3 (.slice (some ⟨w.heap.size + 1 + 1, 0, none⟩) 0 0) 0 [] := by
      have := (own_emptyN ((w.alloc (.cells #[.int .i64 m.k, .int .i64 m.c, .int .i64 m.v, .int .i64 m.o, (.slice ab m.body.length cb), (.slice af m.fnd.length cf)] 27)).alloc (.cells #[.int .i64 0, .int .i64 0, .int .i64 0, .int .i64 0, .slice none 0 0, .slice none 0 0] 27)) 79 3).alloc (.cells #[.int .i64 by', .int .i64 2, .int .i64 (wrap64 (-by'))] 79)
      simp only [World.size_alloc] at this
      exact this
    have hX : Rv ((((w.alloc (.cells #[.int .i64 m.k, .int .i64 m.c, .int .i64 m.v, .int .i64 m.o, (.slice ab m.body.length cb), (.slice af m.fnd.length cf)] 27)).alloc (.cells #[.int .i64 0, .int .i64 0, .int .i64 0, .int .i64 0, .slice none 0 0, .slice none 0 0] 27)).alloc (.cells #[] 79)).alloc (.cells #[.int .i64 by', .int .i64 2, .int .i64 (wrap64 (-by'))] 79)) (.slice (some ⟨w.heap.size + 1 + 1 + 1, 0, none⟩) 1 1) 1 [.int .i64 by', .int .i64 2, .int .i64 (wrap64 (-by'))] := Rv.of_cells (by omega) (by unfold maxLen; omega) (fun i u hu => by
      have hn := World.alloc_heap_new (((w.alloc (.cells #[.int .i64 m.k, .int .i64 m.c, .int .i64 m.v, .int .i64 m.o, (.slice ab m.body.length cb), (.slice af m.fnd.length cf)] 27)).alloc (.cells #[.int .i64 0, .int .i64 0, .int .i64 0, .int .i64 0, .slice none 0 0, .slice none 0 0] 27)).alloc (.cells #[] 79)) (.cells #[.int .i64 by', .int .i64 2, .int .i64 (wrap64 (-by'))] 79)
      simp only [World.size_alloc] at hn
      unfold World.cell?
      rw [hn]
      simpa using hu)
    have B3 : Below w.heap.size w ((((w.alloc (.cells #[.int .i64 m.k, .int .i64 m.c, .int .i64 m.v, .int .i64 m.o, (.slice ab m.body.length cb), (.slice af m.fnd.length cf)] 27)).alloc (.cells #[.int .i64 0, .int .i64 0, .int .i64 0, .int .i64 0, .slice none 0 0, .slice none 0 0] 27)).alloc (.cells #[] 79)).alloc (.cells #[.int .i64 by', .int .i64 2, .int .i64 (wrap64 (-by'))] 79)) := ((((Below.refl _ w).alloc (Nat.le_refl _) _).alloc (by simp) _).alloc (by simp; omega) _).alloc (by simp; omega) _
    have kA3 : ((((w.alloc (.cells #[.int .i64 m.k, .int .i64 m.c, .int .i64 m.v, .int .i64 m.o, (.slice ab m.body.length cb), (.slice af m.fnd.length cf)] 27)).alloc (.cells #[.int .i64 0, .int .i64 0, .int .i64 0, .int .i64 0, .slice none 0 0, .slice none 0 0] 27)).alloc (.cells #[] 79)).alloc (.cells #[.int .i64 by', .int .i64 2, .int .i64 (wrap64 (-by'))] 79)).heap[w.heap.size]? = some (.cells #[.int .i64 m.k, .int .i64 m.c, .int .i64 m.v, .int .i64 m.o, (.slice ab m.body.length cb), (.slice af m.fnd.length cf)] 27) := (Below.heap_alloc _ _ _ (by simp only [World.size_alloc]; omega)).trans ((Below.heap_alloc _ _ _ (by simp only [World.size_alloc]; omega)).trans ((Below.heap_alloc _ _ _ (by simp only [World.size_alloc]; omega)).trans (World.alloc_heap_new w _)))
    have kR3 : ((((w.alloc (.cells #[.int .i64 m.k, .int .i64 m.c, .int .i64 m.v, .int .i64 m.o, (.slice ab m.body.length cb), (.slice af m.fnd.length cf)] 27)).alloc (.cells #[.int .i64 0, .int .i64 0, .int .i64 0, .int .i64 0, .slice none 0 0, .slice none 0 0] 27)).alloc (.cells #[] 79)).alloc (.cells #[.int .i64 by', .int .i64 2, .int .i64 (wrap64 (-by'))] 79)).heap[w.heap.size + 1]? = some (.cells #[.int .i64 0, .int .i64 0, .int .i64 0, .int .i64 0, .slice none 0 0, .slice none 0 0] 27) := (Below.heap_alloc _ _ _ (by simp only [World.size_alloc]; omega)).trans ((Below.heap_alloc _ _ _ (by simp only [World.size_alloc]; omega)).trans (by have := World.alloc_heap_new (w.alloc (.cells #[.int .i64 m.k, .int .i64 m.c, .int .i64 m.v, .int .i64 m.o, (.slice ab m.body.length cb), (.slice af m.fnd.length cf)] 27)) (.cells #[.int .i64 0, .int .i64 0, .int .i64 0, .int .i64 0, .slice none 0 0, .slice none 0 0] 27); rwa [World.size_alloc] at this))
    go_wp2_with (at_builtin; refine wpList_app2 _ rfl _ _ rfl Try.elF (w.heap.size + 1 + 1) _ 0 _ rfl hO _ 1 [.int .i64 by', .int .i64 2, .int .i64 (wrap64 (-by'))] rfl hX rfl (by simp [Value.oneCell']) (by omega) (by simp only [World.size_alloc]; omega) ?_; intro v4 w4 O4 g4 _; refine later ?_)
    have gb : Below (w.heap.size + 1 + 1) ((((w.alloc (.cells #[.int .i64 m.k, .int .i64 m.c, .int .i64 m.v, .int .i64 m.o, (.slice ab m.body.length cb), (.slice af m.fnd.length cf)] 27)).alloc (.cells #[.int .i64 0, .int .i64 0, .int .i64 0, .int .i64 0, .slice none 0 0, .slice none 0 0] 27)).alloc (.cells #[] 79)).alloc (.cells #[.int .i64 by', .int .i64 2, .int .i64 (wrap64 (-by'))] 79)) w4 := ⟨g4.os, g4.tape, g4.output, g4.size, fun k hk => g4.block k (by simp only [World.size_alloc]; omega) (fun e => by
      have e2 : w.heap.size + 1 + 1 = k := by simpa [Act.eval, Value.ownBlock] using e.symm
      omega)⟩
    have B4 : Below w.heap.size w w4 := B3.trans (gb.mono (by omega))
    have kA := (gb.block w.heap.size (by omega)).trans kA3
    have kR := (gb.block (w.heap.size + 1) (by omega)).trans kR3
    obtain ⟨a4, c4, rfl, _, _⟩ := (Rv.of_own O4).opened
    have j0 : w4.cell? ⟨w.heap.size, 0, none⟩ = some (.int .i64 m.k) := by simp [World.cell?, kA]
    have j1 : w4.cell? ⟨w.heap.size, 1, none⟩ = some (.int .i64 m.c) := by simp [World.cell?, kA]
    have j2 : w4.cell? ⟨w.heap.size, 2, none⟩ = some (.int .i64 m.v) := by simp [World.cell?, kA]
    have j3 : w4.cell? ⟨w.heap.size, 3, none⟩ = some (.int .i64 m.o) := by simp [World.cell?, kA]
    have j4 : w4.cell? ⟨w.heap.size, 4, none⟩ = some (.slice ab m.body.length cb) := by simp [World.cell?, kA]
    have j5 : w4.cell? ⟨w.heap.size, 5, none⟩ = some (.slice af m.fnd.length cf) := by simp [World.cell?, kA]
    have z0 : w4.cell? ⟨w.heap.size + 1, 0, none⟩ = some (.int .i64 0) := by simp [World.cell?, kR]
    have z1 : w4.cell? ⟨w.heap.size + 1, 1, none⟩ = some (.int .i64 0) := by simp [World.cell?, kR]
    have z2 : w4.cell? ⟨w.heap.size + 1, 2, none⟩ = some (.int .i64 0) := by simp [World.cell?, kR]
    have z3 : w4.cell? ⟨w.heap.size + 1, 3, none⟩ = some (.int .i64 0) := by simp [World.cell?, kR]
    have z4 : w4.cell? ⟨w.heap.size + 1, 4, none⟩ = some (.slice none 0 0) := by simp [World.cell?, kR]
    have z5 : w4.cell? ⟨w.heap.size + 1, 5, none⟩ = some (.slice none 0 0) := by simp [World.cell?, kR]
    have jf : ∀ j, w4.frozen? ⟨w.heap.size, j, none⟩ = false := fun j => by simp [World.frozen?, kA]
    have zf : ∀ j, w4.frozen? ⟨w.heap.size + 1, j, none⟩ = false := fun j => by simp [World.frozen?, kR]
    have KR := Lib.hid kR
    have R4 := Rv.of_own O4
    have l4 := O4.lt
    rw [Nat.zero_add, List.nil_append] at R4
    clear g4 gb B3 hO hX kA3 kR3 kA kR O4
    refine Later.in ?_
    go_wp2_with fail
    have hR5 := (Below.heap_setCell w4 ⟨w.heap.size, 5, none⟩ (.slice a4 (0 + 1) c4) (w.heap.size + 1) (by simp)).trans KR.out
    have B5 : Below w.heap.size w (w4.setCell ⟨w.heap.size, 5, none⟩ (.slice a4 (0 + 1) c4)) := B4.setCell (p := ⟨w.heap.size, 5, none⟩) (Nat.le_refl _) _
    refine bodyPost_ret (results_cell_row rfl _ _ (w.heap.size + 1) _ _ _ _ rfl (set6 hR5 _ _ _ _ _ _) rfl rfl rfl) rfl ?_
    refine ⟨⟨m.k, m.c, m.v, m.o, m.body, [⟨by', 2, (wrap64 (-by'))⟩]⟩, ab, a4, cb, c4, rfl, ⟨hm.body.below (bel6 B5 (Nat.le_succ _) _ _ _ _ _ _), ?_⟩, bel6 B5 (Nat.le_succ _) _ _ _ _ _ _⟩
    exact rvFar (rvFar R4 (fun k hk => Below.heap_setCell _ _ _ _ hk) (fun e => by have := (l4 _ e).1; simp only at this; omega)) (fun k hk => far6 hk _ _ _ _ _ _) (fun e => by have := (l4 _ e).1; omega)
end Go.Proofs.Ytadhghikanjkeaa
