/- Package edits: Encode, Decode. -/
import Derived.Test.YtpehnggglolnoaaEdC
import Derived.Test.YtpehnggglolnoaaWireL
namespace Go.Proofs.Ytpehnggglolnoaa
open Go.RowKit

/-- The bytes of an item. -/
def encI (ns s : List Int) : List UInt8 := zvars ns ++ intsW s
theorem encI_len (ns s : List Int) (h : s.length ≤ 3) (hn : ns.length = 5) : (encI ns s).length ≤ 90 := by
  have h1 := zvars_len ns
  have h2 := zvars_len s
  have h3 := uvar_len s.length
  unfold encI intsW
  rw [List.length_append, List.length_append]
  omega
def RngI (x : Int) : Prop := -9223372036854775808 ≤ x ∧ x ≤ 9223372036854775807
theorem WStep.keep {w w' : World} {b : Nat} {v' : Value} (h : WStep w w' b (.slice none 0 0) v') {k : Nat} (hk : k < w.heap.size) (hb : k ≠ b) : w'.heap[k]? = w.heap[k]? := h.block k hk hb (fun e => by cases e)
set_option maxRecDepth 20000 in
set_option maxHeartbeats 1000000 in
theorem encode27_any (c n b a d : Int) (s : List Int) (ao : Option Addr) (k : Nat) (w : World) (hr : Rv w (.slice ao s.length k) s.length (s.map (Value.int .i64))) (hN : ∀ x ∈ [c, n, b, a, d], RngI x) (hs : ∀ x ∈ s, RngI x) (hl : s.length ≤ 1000) :
    Calls Try.prog 18 #[.agg #[.int .i64 c, .int .i64 n, .int .i64 b, .int .i64 a, .int .i64 d, .slice ao s.length k]] w (RetMade w 5 ((encI [c, n, b, a, d] s).map vB)) := by
  have B1 := (Below.refl w.heap.size w).alloc (Nat.le_refl _) (.cells #[.int .i64 c, .int .i64 n, .int .i64 b, .int .i64 a, .int .i64 d, .slice ao s.length k] 51)
  have X1 := World.alloc_heap_new w (.cells #[.int .i64 c, .int .i64 n, .int .i64 b, .int .i64 a, .int .i64 d, .slice ao s.length k] 51)
  have hl1 : w.heap.size < (w.alloc (.cells #[.int .i64 c, .int .i64 n, .int .i64 b, .int .i64 a, .int .i64 d, .slice ao s.length k] 51)).heap.size := by simp
  have hr1 := hr.below B1
  go_enter Try.func18, Try.ntmps18
  go_upto_region 1 with fail
  generalize w.alloc (.cells #[.int .i64 c, .int .i64 n, .int .i64 b, .int .i64 a, .int .i64 d, .slice ao s.length k] 51) = w1 at *
  obtain ⟨H, hH⟩ : ∃ H, w.heap.size = H := ⟨_, rfl⟩
  rw [hH] at X1 hl1 ⊢
  obtain ⟨G, hG⟩ : ∃ G, w1.heap.size = G := ⟨_, rfl⟩
  have W2 := Wr.new w1
  have B2 := (Below.refl w1.heap.size w1).alloc (Nat.le_refl _) (.cells #[.slice none 0 0] 70)
  have X2 := (B2.block H (by omega)).trans X1
  have D2 : Below G w1 (w1.alloc (.cells #[.slice none 0 0] 70)) := by rw [← hG]; exact B2
  have hlHG : H < G := by omega
  have hs2 : (w1.alloc (.cells #[.slice none 0 0] 70)).heap.size = G + 1 := by simp [hG]
  rw [hG] at W2
  have HG := Bx.mk hG
  have B2 := bel B1 B2
  clear X1 B1 hr
  go_upto_region 2 with fail
  try rw [HG.out]
  generalize w1.alloc (.cells #[.slice none 0 0] 70) = w2 at *
  have HS2 := Bx.mk hs2
  have x0 : w2.cell? ⟨H, 0, none⟩ = some (.int .i64 c) := by simp [World.cell?, X2]
  have x1 : w2.cell? ⟨H, 1, none⟩ = some (.int .i64 n) := by simp [World.cell?, X2]
  have x2 : w2.cell? ⟨H, 2, none⟩ = some (.int .i64 b) := by simp [World.cell?, X2]
  have x3 : w2.cell? ⟨H, 3, none⟩ = some (.int .i64 a) := by simp [World.cell?, X2]
  have x4 : w2.cell? ⟨H, 4, none⟩ = some (.int .i64 d) := by simp [World.cell?, X2]
  have A3 := (Below.refl w2.heap.size w2).alloc (Nat.le_refl _) (.cells #[.int .i64 c, .int .i64 n, .int .i64 b, .int .i64 a, .int .i64 d] 3)
  have W3 := W2.later A3
  have R3 := World.alloc_heap_new w2 (.cells #[.int .i64 c, .int .i64 n, .int .i64 b, .int .i64 a, .int .i64 d] 3)
  have X3 := (A3.block H (by omega)).trans X2
  have D3 := D2.trans (A3.mono (by omega))
  have B3 := bel B2 A3
  have hs3 : (w2.alloc (.cells #[.int .i64 c, .int .i64 n, .int .i64 b, .int .i64 a, .int .i64 d] 3)).heap.size = G + 1 + 1 := by rw [World.size_alloc, hs2]
  rw [hs2] at R3
  clear hs2 hG
  go_wp2_with fail
  try rw [HS2.out]
  generalize w2.alloc (.cells #[.int .i64 c, .int .i64 n, .int .i64 b, .int .i64 a, .int .i64 d] 3) = w3 at *
  have HS3 := Bx.mk hs3
  clear hs3 x0 x1 x2 x3 x4 A3 W2 X2 D2 B2
  have HNN := Bx.mk hN
  have HSS := Bx.mk hs
  clear hN hs
  go_loopw [20] (fun iv wr => ∃ (i : Nat) (v2 : Value), iv = .int .i64 (i : Int) ∧ i ≤ 5 ∧ Wr wr G v2 (zvars ([c, n, b, a, d].take i)) ∧ WStep w3 wr G (.slice none 0 0) v2) (fun iv _ => 5 - (intOf iv).toNat)
  case atStart => exact ⟨0, _, rfl, by omega, W3, WStep.refl _ _ _⟩
  case round =>
    obtain ⟨i, v2, rfl, hi, W4, S4⟩ := hrel
    rename World => W
    have hz := zvars_len ([c, n, b, a, d].take i)
    rw [List.length_take] at hz
    simp only [List.length_cons, List.length_nil] at hz
    by_cases hlt : i < 5
    · obtain ⟨y, hy⟩ : ∃ y, [c, n, b, a, d][i]? = some y := ⟨[c, n, b, a, d][i]'(by simpa using hlt), List.getElem?_eq_getElem _⟩
      have hRr : W.heap[G + 1]? = _ := (S4.keep (k := G + 1) (by rw [HS3.out]; omega) (by omega)).trans R3
      have hcy : W.cell? ⟨G + 1, i, none⟩ = some (.int .i64 y) := by
        have : ([c, n, b, a, d].map (Value.int .i64))[i]? = some (.int .i64 y) := by rw [List.getElem?_map, hy]; rfl
        simp only [World.cell?, hRr]
        simpa using this
      have hyr := HNN.out y (List.mem_of_getElem? hy)
      have hsn : zvars ([c, n, b, a, d].take i) ++ zvar y = zvars ([c, n, b, a, d].take (i + 1)) := by
        rw [zvars_snoc _ i (by simpa using hlt)]
        rw [List.getElem?_eq_getElem (by simpa using hlt)] at hy
        rw [Option.some.inj hy]
      have HYR := Bx.mk hyr
      have HSN := Bx.mk hsn
      clear hRr hy hyr hsn
      go_wp2_with fail
      refine (wint_any G v2 _ y W W4 HYR.out.1 HYR.out.2 (by omega)).mono ?_
      rintro en w5 ⟨v5, rfl, W5, S5⟩
      rw [HSN.out] at W5
      go_wp2_with fail
      go_roundw
      case rel => exact ⟨i + 1, v5, by go_num, by omega, W5, S4.trans S5⟩
      case measure => simp [intOf]; omega
    · obtain rfl : i = 5 := by omega
      have X4 := (S4.keep (k := H) (by rw [HS3.out]; omega) (by omega)).trans X3
      have hx5 : W.cell? ⟨H, 5, none⟩ = some (.slice ao s.length k) := by simp [World.cell?, X4]
      have C4 : Below G w3 W := (S4.below W3).mono (Nat.le_refl _)
      have hr4 : Rv W (.slice ao s.length k) s.length (s.map (Value.int .i64)) := hr1.below (by rw [HG.out]; exact D3.trans C4)
      have B4 : Below w.heap.size w W := B3.trans (C4.mono (by omega))
      go_wp2_with fail
      refine (wints_any G v2 _ (.slice ao s.length k) s W W4 hr4 (fun w' v' S => hr1.below (by rw [HG.out]; exact (D3.trans C4).trans (S.below W4))) HSS.out (by omega)).mono ?_
      rintro en w5 ⟨v5, rfl, W5, S5⟩
      have B5 : Below w.heap.size w w5 := B4.trans ((S5.below W4).mono (by omega))
      go_wp2_with fail
      refine (wdone_any G v5 _ w5 W5 (by unfold intsW; have := uvar_len s.length; have := zvars_len s; simp only [List.length_append]; omega)).mono ?_
      rintro en w6 ⟨v6, rfl, M6⟩
      obtain ⟨k6, a6, c6, rfl⟩ := own_shape M6.1
      go_wp2_with fail
      go_ret
      refine retMade (own_base M6.1 B5.size) ?_ (bel B5 M6.2)
      rw [List.take_of_length_le (by simp)]
      rfl
theorem results_item {fn : Func} {p u : Tmp} (hf : fn.results = #[.cell p 51, .tmp u]) (tmps : Array Value) {w : World} {b : Nat} {c0 c1 c2 c3 c4 c5 : Value}
    (hp : tmps.getD p undef = .pointer (some ⟨b, 0, none⟩)) (h : w.heap[b]? = some (.cells #[c0, c1, c2, c3, c4, c5] 51 (0, 0))) : (results fn tmps).run Try.prog w = .ok (.tuple #[.agg #[c0, c1, c2, c3, c4, c5], tmps.getD u undef]) w := by
  have hp' : tmps[p]?.getD undef = .pointer (some ⟨b, 0, none⟩) := by simpa using hp
  have k0 : w.cell? ⟨b, 0, none⟩ = some c0 := by simp [World.cell?, h]
  have k1 : w.cell? ⟨b, 1, none⟩ = some c1 := by simp [World.cell?, h]
  have k2 : w.cell? ⟨b, 2, none⟩ = some c2 := by simp [World.cell?, h]
  have k3 : w.cell? ⟨b, 3, none⟩ = some c3 := by simp [World.cell?, h]
  have k4 : w.cell? ⟨b, 4, none⟩ = some c4 := by simp [World.cell?, h]
  have k5 : w.cell? ⟨b, 5, none⟩ = some c5 := by simp [World.cell?, h]
  rw [results_cell_tmp hf]
  simp [hp', go_sem, k0, k1, k2, k3, k4, k5, Result.andThen]
/-- The item's cells when some fields were read. -/
def mixE (ns : List Int) (i : Nat) : List Value := (ns.take i).map (Value.int .i64) ++ (List.replicate (5 - i) (Value.int .i64 0) ++ [.slice none 0 0])
theorem mixE_len (ns : List Int) (hn : ns.length = 5) (i : Nat) (hi : i ≤ 5) : (mixE ns i).length = 6 := by
  unfold mixE
  simp only [List.length_append, List.length_map, List.length_take, List.length_replicate, List.length_singleton]
  omega
theorem mixE_step (ns : List Int) (hn : ns.length = 5) (i : Nat) (hi : i < 5) : (mixE ns i).set i (.int .i64 ns[i]) = mixE ns (i + 1) := by
  have h5 : 5 - i = 5 - (i + 1) + 1 := by omega
  have hl : ((ns.take i).map (Value.int .i64)).length = i := by rw [List.length_map, List.length_take]; omega
  unfold mixE
  rw [List.set_append_right _ _ (by omega), hl, Nat.sub_self, h5, List.replicate_succ, List.cons_append, List.set_cons_zero, List.take_succ_eq_append_getElem (by omega), List.map_append, List.append_assoc]
  rfl
theorem Rst.other {w w' : World} {b c : Nat} {v : Value} {bs l : List UInt8} (h : Rst w b v bs (.ok l)) (hs : BStep c w w') (hbc : b ≠ c) (hv : v.ownBlock ≠ some c) : Rst w' b v bs (.ok l) := by
  obtain ⟨k, hk, rfl, hR⟩ := h.ok_inv
  exact .ok k hk (hR.bstep hs hbc hv)
/-- What Decode leaves of an item's bytes. -/
def DecPost (w : World) (c n b a d : Int) (s : List Int) (en : Ending) (w' : World) : Prop :=
  ∃ ao k, en = .returned (.tuple #[.agg #[.int .i64 c, .int .i64 n, .int .i64 b, .int .i64 a, .int .i64 d, .slice ao s.length k], .int .i64 0]) ∧ w'.ownsRow w.heap.size 3 1 (.slice ao s.length k) s.length (s.map (Value.int .i64)) ∧ Below w.heap.size w w'
set_option maxRecDepth 20000 in
set_option maxHeartbeats 1000000 in
theorem decode27_any (v : Value) (c n b a d : Int) (s : List Int) (w : World) (hv : Rv w v (encI [c, n, b, a, d] s).length ((encI [c, n, b, a, d] s).map vB)) (hN : ∀ x ∈ [c, n, b, a, d], RngI x) (hs : ∀ x ∈ s, RngI x) (hl : s.length ≤ 3) :
    Calls Try.prog 20 #[v] w (DecPost w c n b a d s) := by
  have hel := encI_len [c, n, b, a, d] s hl rfl
  obtain ⟨ns, hns⟩ : ∃ ns, [c, n, b, a, d] = ns := ⟨_, rfl⟩
  have hn5 : ns.length = 5 := by rw [← hns]; rfl
  have hmix5 : mixE ns 5 = [.int .i64 c, .int .i64 n, .int .i64 b, .int .i64 a, .int .i64 d, .slice none 0 0] := by rw [← hns]; rfl
  rw [hns] at hv hN hel
  obtain ⟨T, hT⟩ : ∃ T, encI ns s = T := ⟨_, rfl⟩
  have hT2 : T = zvars (ns.drop 0) ++ intsW s := by rw [← hT]; rfl
  rw [hT] at hv hel
  have HNN := Bx.mk hN
  have HSS := Bx.mk hs
  have HT2 := Bx.mk hT2
  have HM5 := Bx.mk hmix5
  have HN5 := Bx.mk hn5
  clear hN hs hT hT2 hmix5 hn5 hns
  have B1 := (Below.refl w.heap.size w).alloc (Nat.le_refl _) (.cells #[.int .i64 0, .int .i64 0, .int .i64 0, .int .i64 0, .int .i64 0, .slice none 0 0] 51)
  have R1 := World.alloc_heap_new w (.cells #[.int .i64 0, .int .i64 0, .int .i64 0, .int .i64 0, .int .i64 0, .slice none 0 0] 51)
  have hl1 : w.heap.size < (w.alloc (.cells #[.int .i64 0, .int .i64 0, .int .i64 0, .int .i64 0, .int .i64 0, .slice none 0 0] 51)).heap.size := by simp
  have hv1 := hv.below B1
  go_enter Try.func20, Try.ntmps20
  go_upto_region 1 with fail
  generalize w.alloc (.cells #[.int .i64 0, .int .i64 0, .int .i64 0, .int .i64 0, .int .i64 0, .slice none 0 0] 51) = w1 at *
  obtain ⟨H, hH⟩ : ∃ H, w.heap.size = H := ⟨_, rfl⟩
  rw [hH] at R1 hl1 ⊢
  clear hv
  go_wp2_with fail
  refine (read_any v T w1 hv1 (by omega)).mono ?_
  rintro e w2 ⟨br, vr, rfl, hbr, hvr, T2, B2⟩
  have R2 := (B2.block H hl1).trans R1
  have B2 := bel B1 B2
  have hl2 := T2.lt
  clear hv1 R1 B1
  go_upto_region 3 with fail
  obtain ⟨X, hX⟩ : ∃ X, w2.heap.size = X := ⟨_, rfl⟩
  have A3 := (Below.refl w2.heap.size w2).alloc (Nat.le_refl _) (.cells #[.int .i64 0, .int .i64 0, .int .i64 0, .int .i64 0, .int .i64 0, .slice none 0 0] 51)
  have X3 : (w2.alloc (.cells #[.int .i64 0, .int .i64 0, .int .i64 0, .int .i64 0, .int .i64 0, .slice none 0 0] 51)).heap[w2.heap.size]? = some (.cells (mixE ns 0).toArray 51 (0, 0)) := World.alloc_heap_new w2 _
  have T3 := T2.later A3
  have R3 := (A3.block H (by omega)).trans R2
  have B3 := bel B2 A3
  have hs3 : (w2.alloc (.cells #[.int .i64 0, .int .i64 0, .int .i64 0, .int .i64 0, .int .i64 0, .slice none 0 0] 51)).heap.size = X + 1 := by rw [World.size_alloc, hX]
  rw [hX] at X3 ⊢
  have hlX : br < X := by omega
  have hHX : H < X := by have := B2.size; omega
  have hHb : H < br := by omega
  clear A3 T2 R2 B2 hl2 hX hbr
  generalize w2.alloc (.cells #[.int .i64 0, .int .i64 0, .int .i64 0, .int .i64 0, .int .i64 0, .slice none 0 0] 51) = w3 at *
  have A4 := (Below.refl w3.heap.size w3).alloc (Nat.le_refl _) (.cells #[.pointer (some ⟨X, 0, none⟩), .pointer (some ⟨X, 1, none⟩), .pointer (some ⟨X, 2, none⟩), .pointer (some ⟨X, 3, none⟩), .pointer (some ⟨X, 4, none⟩)] 107)
  have P4 := World.alloc_heap_new w3 (.cells #[.pointer (some ⟨X, 0, none⟩), .pointer (some ⟨X, 1, none⟩), .pointer (some ⟨X, 2, none⟩), .pointer (some ⟨X, 3, none⟩), .pointer (some ⟨X, 4, none⟩)] 107)
  have T4 := T3.later A4
  have R4 := (A4.block H (by omega)).trans R3
  have X4 := (A4.block X (by omega)).trans X3
  have B4 := bel B3 A4
  rw [hs3] at P4
  go_wp2_with fail
  generalize w3.alloc (.cells #[.pointer (some ⟨X, 0, none⟩), .pointer (some ⟨X, 1, none⟩), .pointer (some ⟨X, 2, none⟩), .pointer (some ⟨X, 3, none⟩), .pointer (some ⟨X, 4, none⟩)] 107) = w4 at *
  clear A4 T3 R3 X3 B3 hs3
  go_loopw [19] (fun iv wr => ∃ i : Nat, iv = .int .i64 (i : Int) ∧ i ≤ 5 ∧ Rst wr br vr T (.ok (zvars (ns.drop i) ++ intsW s)) ∧ wr.heap[X]? = some (.cells (mixE ns i).toArray 51 (0, 0)) ∧ wr.heap[H]? = some (.cells #[.int .i64 0, .int .i64 0, .int .i64 0, .int .i64 0, .int .i64 0, .slice none 0 0] 51 (0, 0)) ∧ wr.heap[X + 1]? = some (.cells #[.pointer (some ⟨X, 0, none⟩), .pointer (some ⟨X, 1, none⟩), .pointer (some ⟨X, 2, none⟩), .pointer (some ⟨X, 3, none⟩), .pointer (some ⟨X, 4, none⟩)] 107 (0, 0)) ∧ Below w.heap.size w wr) (fun iv _ => 5 - (intOf iv).toNat)
  case atStart => exact ⟨0, rfl, by omega, by rw [← HT2.out]; exact T4, X4, R4, P4, B4⟩
  case round =>
    clear T4 X4 R4 P4 B4
    obtain ⟨i, rfl, hi, T5, X5, R5, P5, B5⟩ := hrel
    rename World => W
    have hXl : X < W.heap.size := (Array.getElem?_eq_some_iff.1 X5).1
    by_cases hlt : i < 5
    · have hlt' : i < ns.length := by have := HN5.out; omega
      have hp : W.cell? ⟨X + 1, i, none⟩ = some (.pointer (some ⟨X, i, none⟩)) := by
        have h5 : i = 0 ∨ i = 1 ∨ i = 2 ∨ i = 3 ∨ i = 4 := by omega
        simp only [World.cell?, P5]
        rcases h5 with rfl | rfl | rfl | rfl | rfl <;> rfl
      have hdr : ns.drop i = ns[i] :: ns.drop (i + 1) := List.drop_eq_getElem_cons hlt'
      have hrd : rdI (.ok (zvars (ns.drop i) ++ intsW s)) = (ns[i], .ok (zvars (ns.drop (i + 1)) ++ intsW s)) := by
        have h1 : zvars (ns.drop i) = zvar ns[i] ++ zvars (ns.drop (i + 1)) := by rw [hdr]; rfl
        rw [h1, List.append_assoc]
        exact rdI_zvar _ _ (HNN.out _ (List.getElem_mem hlt'))
      have hri := rint_any br vr T _ W T5
      rw [hrd] at hri
      have hst := mixE_step ns HN5.out i hlt
      obtain ⟨y, hy⟩ : ∃ y, ns[i] = y := ⟨_, rfl⟩
      rw [hy] at hri hst
      have HRI := Bx.mk hri
      have HST := Bx.mk hst
      have hml := mixE_len ns HN5.out i (by omega)
      have HML := Bx.mk hml
      clear hdr hrd hri hst hy hml
      go_wp2_with fail
      refine HRI.out.mono ?_
      rintro en w6 ⟨rfl, T6, S6⟩
      have X6 := (S6.block X hXl (by omega)).trans X5
      have R6 := (S6.block H (by omega) (by omega)).trans R5
      have P6 := (S6.block (X + 1) (Array.getElem?_eq_some_iff.1 P5).1 (by omega)).trans P5
      have B6 := S6.bel B5 (by omega) (by omega)
      have X7 := heap_set3 X6 i (.int .i64 y)
      rw [List.setIfInBounds_toArray, HST.out] at X7
      have R7 := (Below.heap_setCell w6 ⟨X, i, none⟩ (.int .i64 y) H (by show H ≠ X; omega)).trans R6
      have P7 := (Below.heap_setCell w6 ⟨X, i, none⟩ (.int .i64 y) (X + 1) (by show X + 1 ≠ X; omega)).trans P6
      have B7 := B6.setCell (p := ⟨X, i, none⟩) (by show w.heap.size ≤ X; omega) (.int .i64 y)
      have hvX : vr.ownBlock ≠ some X := fun e => by have := (hvr X e).2; omega
      have T7 := T6.other ((BStep.refl X w6).set i (.int .i64 y)) (by omega) hvX
      have f6 : w6.frozen? ⟨X, i, none⟩ = false := by simp [World.frozen?, X6]
      obtain ⟨u6, e6⟩ : ∃ u, w6.cell? ⟨X, i, none⟩ = some u := by
        simp only [World.cell?, X6]
        refine ⟨(mixE ns i)[i]'(by rw [HML.out]; omega), ?_⟩
        simp
      clear hp HRI HST HML X6 R6 P6 B6 T6 S6
      go_wp2_with fail
      go_roundw
      case rel => exact ⟨i + 1, by go_num, by omega, T7, X7, R7, P7, B7⟩
      case measure => simp [intOf]; omega
    · obtain rfl : i = 5 := by omega
      rw [HM5.out] at X5
      have hd5 : ns.drop 5 = [] := List.drop_eq_nil_of_le (by have := HN5.out; omega)
      rw [hd5] at T5
      have hri := rints_any br vr T _ W T5 (by omega)
      have h1 : rdInts (.ok (zvars [] ++ intsW s)) = (s, .ok []) := by
        have h1 := rdInts_intsW s [] (by omega) HSS.out
        rw [List.append_nil] at h1
        exact h1
      rw [h1] at hri
      have HRI := Bx.mk hri
      clear hri h1 hd5
      go_wp2_with fail
      refine HRI.out.mono ?_
      rintro en w6 ⟨v6, rfl, O6, T6, S6⟩
      rw [List.length_map] at O6
      have X6 := (S6.block X hXl (by omega)).trans X5
      have R6 := (S6.block H (by omega) (by omega)).trans R5
      have B6 := S6.bel B5 (by omega) (by omega)
      obtain ⟨k6, a6, c6, rfl⟩ := own_shape O6
      obtain rfl : k6 = s.length := own_k O6
      have X7 : (w6.setCell ⟨X, 5, none⟩ (.slice a6 s.length c6)).heap[X]? = some (.cells #[.int .i64 c, .int .i64 n, .int .i64 b, .int .i64 a, .int .i64 d, .slice a6 s.length c6] 51 (0, 0)) := heap_set3 X6 5 (.slice a6 s.length c6)
      have R7 := (Below.heap_setCell w6 ⟨X, 5, none⟩ (.slice a6 s.length c6) H (by show H ≠ X; omega)).trans R6
      have B7 := B6.setCell (p := ⟨X, 5, none⟩) (by show w.heap.size ≤ X; omega) (.slice a6 s.length c6)
      have hvX : vr.ownBlock ≠ some X := fun e => by have := (hvr X e).2; omega
      have T7 := T6.other ((BStep.refl X w6).set 5 (.slice a6 s.length c6)) (by omega) hvX
      have O7 := own_set O6 (b := X) hXl 5 (.slice a6 s.length c6)
      have f6 : w6.frozen? ⟨X, 5, none⟩ = false := by simp [World.frozen?, X6]
      have e6 : w6.cell? ⟨X, 5, none⟩ = some (.slice none 0 0) := by simp [World.cell?, X6]
      have B5s := B5.size
      clear X6 R6 B6 T6 S6 O6 HRI X5 R5 P5 B5 T5
      go_wp2_with fail
      generalize w6.setCell ⟨X, 5, none⟩ (.slice a6 s.length c6) = w7 at *
      refine (rend_any br vr T _ w7 T7).mono ?_
      rintro en w8 ⟨rfl, n8, h8⟩
      have B8 := (Below.refl w7.heap.size w7)
      have C8 : Below w7.heap.size w7 w8 := by rw [h8]; exact belD (Below.refl _ _) _
      have X8 := (C8.block X (Array.getElem?_eq_some_iff.1 X7).1).trans X7
      have R8 := (C8.block H (Array.getElem?_eq_some_iff.1 R7).1).trans R7
      have O8 := own_below O7 C8
      have B8 := bel B7 C8
      clear h8 C8 X7 R7 O7 B7 T7
      have y0 : w8.cell? ⟨X, 0, none⟩ = some (.int .i64 c) := by simp [World.cell?, X8]
      have y1 : w8.cell? ⟨X, 1, none⟩ = some (.int .i64 n) := by simp [World.cell?, X8]
      have y2 : w8.cell? ⟨X, 2, none⟩ = some (.int .i64 b) := by simp [World.cell?, X8]
      have y3 : w8.cell? ⟨X, 3, none⟩ = some (.int .i64 a) := by simp [World.cell?, X8]
      have y4 : w8.cell? ⟨X, 4, none⟩ = some (.int .i64 d) := by simp [World.cell?, X8]
      have y5 : w8.cell? ⟨X, 5, none⟩ = some (.slice a6 s.length c6) := by simp [World.cell?, X8]
      have r0 : w8.cell? ⟨H, 0, none⟩ = some (.int .i64 0) := by simp [World.cell?, R8]
      have r1 : w8.cell? ⟨H, 1, none⟩ = some (.int .i64 0) := by simp [World.cell?, R8]
      have r2 : w8.cell? ⟨H, 2, none⟩ = some (.int .i64 0) := by simp [World.cell?, R8]
      have r3 : w8.cell? ⟨H, 3, none⟩ = some (.int .i64 0) := by simp [World.cell?, R8]
      have r4 : w8.cell? ⟨H, 4, none⟩ = some (.int .i64 0) := by simp [World.cell?, R8]
      have r5 : w8.cell? ⟨H, 5, none⟩ = some (.slice none 0 0) := by simp [World.cell?, R8]
      have rf : ∀ j, w8.frozen? ⟨H, j, none⟩ = false := fun j => by simp [World.frozen?, R8]
      have hHW : H < W.heap.size := by omega
      have hHH : w.heap.size ≤ H := by omega
      have R9 := (heap_set3 (heap_set3 (heap_set3 (heap_set3 (heap_set3 (heap_set3 R8 0 (.int .i64 c)) 1 (.int .i64 n)) 2 (.int .i64 b)) 3 (.int .i64 a)) 4 (.int .i64 d)) 5 (.slice a6 s.length c6))
      have O9 := (own_set (own_set (own_set (own_set (own_set (own_set O8 (b := H) hHW 0 (.int .i64 c)) (b := H) hHW 1 (.int .i64 n)) (b := H) hHW 2 (.int .i64 b)) (b := H) hHW 3 (.int .i64 a)) (b := H) hHW 4 (.int .i64 d)) (b := H) hHW 5 (.slice a6 s.length c6))
      have B9 := ((((((B8.setCell (p := ⟨H, 0, none⟩) hHH (.int .i64 c)).setCell (p := ⟨H, 1, none⟩) hHH (.int .i64 n)).setCell (p := ⟨H, 2, none⟩) hHH (.int .i64 b)).setCell (p := ⟨H, 3, none⟩) hHH (.int .i64 a)).setCell (p := ⟨H, 4, none⟩) hHH (.int .i64 d)).setCell (p := ⟨H, 5, none⟩) hHH (.slice a6 s.length c6))
      have HR9 := Bx.mk R9
      have HO9 := Bx.mk (own_base O9 B5s)
      have HB9 := Bx.mk B9
      clear R9 O9 B9 R8 X8 O8 B8
      go_wp2_with fail
      refine bodyPost_ret (results_item rfl _ rfl HR9.out) rfl ?_
      exact ⟨a6, c6, rfl, HO9.out, HB9.out⟩
end Go.Proofs.Ytpehnggglolnoaa
