/- Package pool's model: Script, a list of operations. -/
import Derived.Test.YtfdacckkdjpjhaaStp
import Derived.Test.YtfdacckkdjpjhaaLibIn
import Derived.Test.YtfdacckkdjpjhaaRefA
import Derived.Test.YtfdacckkdjpjhaaSame
import Derived.Deep.CutBlock
import Derived.Deep.CutRange
import Derived.Deep.AppendLies
namespace Go.Proofs.Ytfdacckkdjpjhaa
open Go.RowKit

theorem Try.infoPo : (Try.prog.info? 69).map (fun i => (i.zero, i.size, i.bytes)) = some (some (.agg #[.int .i64 0, .int .i64 0, .int .i64 0, .slice none 0 0, .int .i64 0]), 5, 56) := by kernel_rfl
theorem Try.elPo : Elem Try.prog 65 69 (.agg #[.int .i64 0, .int .i64 0, .int .i64 0, .slice none 0 0, .int .i64 0]) 5 56 := ⟨Try.underlying65, Try.infoPo, rfl, by decide, by decide⟩
/-- An operation. -/
structure PO where
  k : Int
  worker : Int
  n : Int
  b : List UInt8
  wait : Int
structure PoOk (o : PO) : Prop where
  k : 0 ≤ o.k ∧ o.k ≤ 4
  worker : 0 ≤ o.worker ∧ o.worker ≤ 9
  n : -1 ≤ o.n ∧ o.n ≤ 63
  n0 : o.k = 0 → o.n ≤ 11
  n1 : o.k ≠ 0 → 0 ≤ o.n
  b : o.b.length ≤ 10
  wait : -1 ≤ o.wait ∧ o.wait ≤ 3
structure PV where
  o : PO
  bv : Value
def PV.cells (x : PV) : List Value := [.int .i64 x.o.k, .int .i64 x.o.worker, .int .i64 x.o.n, x.bv, .int .i64 x.o.wait]
def pvcells (l : List PV) : List Value := l.flatMap PV.cells
theorem pvcells_at : ∀ (l : List PV) (i j : Nat) (q : PV), l[i]? = some q → j < 5 → (pvcells l)[i * 5 + j]? = q.cells[j]?
  | [], i, j, q, h, _ => by simp at h
  | p :: l, 0, j, q, h, hj => by
    simp only [List.getElem?_cons_zero, Option.some.injEq] at h
    subst h
    have : pvcells (p :: l) = p.cells ++ pvcells l := rfl
    rw [this, List.getElem?_append_left (by simp [PV.cells]; omega)]
    congr 1
    omega
  | p :: l, i + 1, j, q, h, hj => by
    have h2 := pvcells_at l i j q (by simpa using h) hj
    have : pvcells (p :: l) = p.cells ++ pvcells l := rfl
    rw [this, List.getElem?_append_right (by simp [PV.cells]; omega)]
    rw [← h2]
    congr 1
    simp [PV.cells]
    omega
/-- A list of operations that is the call's own; their bodies are new, and apart from the row. -/
structure PsL (B : Nat) (W : World) (v : Value) (l : List PV) : Prop where
  own : W.ownsRow B 69 5 v l.length (pvcells l)
  rd : ∀ p ∈ l, Rv W p.bv p.o.b.length (p.o.b.map vB) ∧ PoOk p.o
  low : ∀ p ∈ l, ∀ g, p.bv.ownBlock = some g → B ≤ g ∧ g < W.heap.size ∧ v.ownBlock ≠ some g
theorem PsL.empty (B : Nat) (w : World) : PsL B w (.slice none 0 0) [] := ⟨World.ownsRow_nil _ _ _ _, (fun _ h => by cases h), (fun _ h => by cases h)⟩
theorem PsL.later {B : Nat} {W W' : World} {v : Value} {l : List PV} (h : PsL B W v l) (hB : Below W.heap.size W W') : PsL B W' v l :=
  ⟨own_below h.own hB, fun p hp => ⟨(h.rd p hp).1.below hB, (h.rd p hp).2⟩, fun p hp g hg => ⟨(h.low p hp g hg).1, Nat.lt_of_lt_of_le (h.low p hp g hg).2.1 hB.size, (h.low p hp g hg).2.2⟩⟩
theorem PsL.app {B : Nat} {W W' : World} {v v' : Value} {l : List PV} {p : PV} (h : PsL B W v l) (ho : W'.ownsRow B 69 5 v' (l.length + 1) (pvcells l ++ p.cells)) (hg : W.grownBy W' v.ownBlock) (hs : SameOrNew W v v')
    (hc : Rv W p.bv p.o.b.length (p.o.b.map vB) ∧ PoOk p.o) (hl : ∀ g, p.bv.ownBlock = some g → B ≤ g ∧ g < W.heap.size ∧ v.ownBlock ≠ some g) : PsL B W' v' (l ++ [p]) := by
  have far : ∀ (q : PV), (∀ g, q.bv.ownBlock = some g → B ≤ g ∧ g < W.heap.size ∧ v.ownBlock ≠ some g) → Rv W q.bv q.o.b.length (q.o.b.map vB) → Rv W' q.bv q.o.b.length (q.o.b.map vB) := fun q hq hc =>
    rvSame hc (fun g hgl e => hg.block g hgl (fun e2 => (hq g e).2.2 e2.symm))
  have lo : ∀ (q : PV), (∀ g, q.bv.ownBlock = some g → B ≤ g ∧ g < W.heap.size ∧ v.ownBlock ≠ some g) → ∀ g, q.bv.ownBlock = some g → B ≤ g ∧ g < W'.heap.size ∧ v'.ownBlock ≠ some g := fun q hq g hg2 => by
    obtain ⟨h1, h2, h3⟩ := hq g hg2
    refine ⟨h1, Nat.lt_of_lt_of_le h2 hg.size, fun e => ?_⟩
    rcases hs with hs | hs
    · rw [hs] at e; exact h3 e
    · have := hs g e; omega
  refine ⟨?_, fun q hq => ?_, fun q hq => ?_⟩
  · have e : pvcells (l ++ [p]) = pvcells l ++ p.cells := by simp [pvcells]
    rw [e, List.length_append]
    exact ho
  · rcases List.mem_append.1 hq with hq | hq
    · exact ⟨far q (h.low q hq) (h.rd q hq).1, (h.rd q hq).2⟩
    · obtain rfl := List.mem_singleton.1 hq
      exact ⟨far q hl hc.1, hc.2⟩
  · rcases List.mem_append.1 hq with hq | hq
    · exact lo q (h.low q hq)
    · obtain rfl := List.mem_singleton.1 hq
      exact lo q hl
theorem PsL.at {B : Nat} {W : World} {g n c : Nat} {l : List PV} (h : PsL B W (.slice (some ⟨g, 0, none⟩) n c) l) {i : Nat} {q : PV} (hi : l[i]? = some q) : ∀ j, j < 5 → W.cell? ⟨g, i * 5 + j, none⟩ = q.cells[j]? := fun j hj => by
  have hlt := (List.getElem?_eq_some_iff.1 hi).1
  have hn : n = l.length := by
    rcases h.own.2 with ⟨e, _⟩ | ⟨g', cap, cur, e, _⟩
    · cases e
    · injection e
  have := h.own
  rw [← hn] at this
  rw [this.cellAt (j := i * 5 + j) (by rw [hn]; omega)]
  exact pvcells_at l i j q hi hj
theorem rvAtP {α : Type} {W : World} {n c i : Nat} {a : Option Addr} {l : List α} {f : α → Value} {k : α} (h : Rv W (.slice a n c) n (l.map f)) (hk : l[i]? = some k) : ∃ g off, a = some ⟨g, off, none⟩ ∧ W.cell? ⟨g, off + i, none⟩ = some (f k) := by
  obtain ⟨a', c', e, _, hr⟩ := h.opened
  injection e with e1
  rw [← e1] at hr
  exact hr.cell (i := i) (u := f k) (by rw [List.getElem?_map, hk]; rfl)
theorem setBlkP {w : World} {B : Nat} {cs : Array Value} {t : TypeId} {fr : Nat × Nat} (h : w.heap[B]? = some (.cells cs t fr)) (j : Nat) (v : Value) : (w.setCell ⟨B, j, none⟩ v).heap[B]? = some (.cells (cs.setIfInBounds j v) t fr) := by
  simp [World.setCell, Array.getElem?_modify, h]
theorem u8valP (y : Int) : Value.int .u8 (IntKind.u8.wrap y) = vB (UInt8.ofNat (IntKind.u8.wrap y).toNat) := by
  unfold vB
  congr 1
  rw [UInt8.toNat_ofNat', IntKind.wrap_u8]
  omega
set_option linter.unusedSimpArgs false in
set_option maxRecDepth 20000 in
set_option maxHeartbeats 2000000 in
theorem script_any (v : Value) (l : List Int) (most : Nat) (w : World) (hmost : most ≤ 1000000) (hv : Rv w v l.length (l.map (Value.int .i64))) (hx : ∀ x ∈ l, -9223372036854775808 ≤ x ∧ x ≤ 9223372036854775807) :
    Calls Try.prog 32 #[v, .int .i64 (most : Int)] w fun e w' => ∃ v' L, e = .returned v' ∧ PsL w.heap.size w' v' L ∧ L.length ≤ most ∧ Below w.heap.size w w' := by
  obtain ⟨ao, cap, rfl, hcap, hrd⟩ := hv.opened
  have hlm := hv.len
  unfold maxLen at hlm
  have HX := Bx.mk hx
  clear hx
  obtain ⟨N, hN⟩ : ∃ N, l.length = N := ⟨_, rfl⟩
  rw [hN] at hlm hv hcap ⊢
  have HN := Bx.mk hN
  clear hN hrd
  go_enter Try.func32, Try.ntmps32
  go_wp2_with fail
  go_loopw [5, 6] (fun ov iv wr => ∃ (i : Nat) (L : List PV), iv = .int .i64 (i : Int) ∧ i = 2 * L.length ∧ L.length ≤ most ∧ PsL w.heap.size wr ov L ∧ Below w.heap.size w wr) (fun _ iv _ => 2 * most - (intOf iv).toNat)
  case atStart => exact ⟨0, [], rfl, rfl, Nat.zero_le _, PsL.empty _ _, Below.refl _ w⟩
  case round =>
    obtain ⟨i, L, rfl, hi, hL, hO, hB⟩ := hrel
    obtain ⟨oa, oc, rfl⟩ := own_isSlice hO.own
    have hsz := hB.size
    obtain ⟨k, hk⟩ : ∃ k, L.length = k := ⟨_, rfl⟩
    have hOk : PsL w.heap.size wr (.slice oa k oc) L := by rw [← hk]; exact hO
    rw [hk] at hL hi ⊢
    have hi2 : i ≤ 2000000 := by omega
    have HK := Bx.mk hk
    have HI := Bx.mk hi
    clear hi
    have hw1 : IntKind.i64.wrap ((i : Int) + 1) = (i : Int) + 1 := by rw [IntKind.wrap_i64]; omega
    by_cases hlt : i + 1 < N
    · have hltI : (i : Int) + 1 < (N : Int) := by omega
      by_cases hl6 : k < most
      · have hl6I : (k : Int) < (most : Int) := by omega
        have hi0 : i < l.length := by have := HN.out; omega
        have hi1 : i + 1 < l.length := by have := HN.out; omega
        obtain ⟨b2, off2, ha, hcx⟩ := rvAtP (hv.below hB) (List.getElem?_eq_getElem hi0)
        subst ha
        obtain ⟨b3, off3, ha, hcy⟩ := rvAtP (hv.below hB) (List.getElem?_eq_getElem hi1)
        injection ha with ha
        injection ha with h1 h2
        subst h1 h2
        have HX2 := Bx.mk (HX.out l[i] (List.getElem_mem hi0))
        have HY2 := Bx.mk (HX.out l[i + 1] (List.getElem_mem hi1))
        obtain ⟨x, hx⟩ : ∃ x, l[i] = x := ⟨_, rfl⟩
        obtain ⟨y, hy⟩ : ∃ x, l[i + 1] = x := ⟨_, rfl⟩
        rw [hx] at hcx HX2
        rw [hy] at hcy HY2
        have HO := Bx.mk hOk
        have HBB := Bx.mk hB
        clear hx hy hk hi0 hi1 hO hOk hB
        go_wp2_with fail
        refine (around_nat x 16777216 (by omega) HX2.out.1 HX2.out.2 (by omega) _).mono ?_
        rintro e w1 ⟨n, hn, _, rfl, rfl⟩
        go_wp2_with fail
        refine (around_nat y 16777216 (by omega) HY2.out.1 HY2.out.2 (by omega) _).mono ?_
        rintro e w1 ⟨m, hm, _, rfl, rfl⟩
        go_upto_region 8 with fail
        obtain ⟨G, hG⟩ : ∃ G, wr.heap.size = G := ⟨_, rfl⟩
        have BA := ((Below.refl wr.heap.size wr).alloc (Nat.le_refl _) (.cells #[.int .u8 ((n : Int) % 256), .int .u8 ((m : Int) % 256)] 5)).alloc (by simp) (.cells #[.int .i64 0, .int .i64 ((n : Int) / 16 % 4), .int .i64 ((m : Int) % 64), .slice (some ⟨wr.heap.size, 0, none⟩) 2 2, .int .i64 ((m : Int) / 64 % 4)] 69)
        have hb1 := World.alloc_heap_new (wr.alloc (.cells #[.int .u8 ((n : Int) % 256), .int .u8 ((m : Int) % 256)] 5)) (.cells #[.int .i64 0, .int .i64 ((n : Int) / 16 % 4), .int .i64 ((m : Int) % 64), .slice (some ⟨wr.heap.size, 0, none⟩) 2 2, .int .i64 ((m : Int) / 64 % 4)] 69)
        have hb0 := (Below.heap_alloc (wr.alloc (.cells #[.int .u8 ((n : Int) % 256), .int .u8 ((m : Int) % 256)] 5)) (.cells #[.int .i64 0, .int .i64 ((n : Int) / 16 % 4), .int .i64 ((m : Int) % 64), .slice (some ⟨wr.heap.size, 0, none⟩) 2 2, .int .i64 ((m : Int) / 64 % 4)] 69) wr.heap.size (by simp)).trans (World.alloc_heap_new wr _)
        rw [World.size_alloc] at hb1
        rw [hG] at BA hb1 hb0 ⊢
        have HBA : Below G wr ((wr.alloc (.cells #[.int .u8 ((n : Int) % 256), .int .u8 ((m : Int) % 256)] 5)).alloc (.cells #[.int .i64 0, .int .i64 ((n : Int) / 16 % 4), .int .i64 ((m : Int) % 64), .slice (some ⟨G, 0, none⟩) 2 2, .int .i64 ((m : Int) / 64 % 4)] 69)) := BA
        clear BA
        generalize (wr.alloc (.cells #[.int .u8 ((n : Int) % 256), .int .u8 ((m : Int) % 256)] 5)).alloc (.cells #[.int .i64 0, .int .i64 ((n : Int) / 16 % 4), .int .i64 ((m : Int) % 64), .slice (some ⟨G, 0, none⟩) 2 2, .int .i64 ((m : Int) / 64 % 4)] 69) = w1 at *
        have hwk0 : 0 ≤ (n : Int) / 16 % 4 ∧ (n : Int) / 16 % 4 ≤ 9 := by omega
        have hwt0 : 0 ≤ (m : Int) / 64 % 4 ∧ (m : Int) / 64 % 4 ≤ 3 := by omega
        obtain ⟨wk, hwk⟩ : ∃ a, (n : Int) / 16 % 4 = a := ⟨_, rfl⟩
        obtain ⟨wt, hwt⟩ : ∃ a, (m : Int) / 64 % 4 = a := ⟨_, rfl⟩
        obtain ⟨m64, hm64⟩ : ∃ a, m % 64 = a := ⟨_, rfl⟩
        obtain ⟨m13, hm13⟩ : ∃ a, m % 13 = a := ⟨_, rfl⟩
        obtain ⟨n16, hn16⟩ : ∃ a, n % 16 = a := ⟨_, rfl⟩
        have hm64I : (m : Int) % 64 = (m64 : Int) := by omega
        have hm13I : (m : Int) % 13 = (m13 : Int) := by omega
        have hn16I : (n : Int) % 16 = (n16 : Int) := by omega
        have b64 : m64 ≤ 63 := by omega
        have b13 : m13 ≤ 12 := by omega
        have b16 : n16 ≤ 15 := by omega
        have HB0 := Bx.mk hb0
        rw [hwk, hwt, hm64I] at hb1
        rw [hwk] at hwk0
        rw [hwt] at hwt0
        have hGs : G + 1 < w1.heap.size := (Array.getElem?_eq_some_iff.1 hb1).1
        have hf : ∀ j, w1.frozen? ⟨G + 1, j, none⟩ = false := fun j => by simp [World.frozen?, hb1]
        have hq : ∀ j, j < 5 → ∃ u, w1.cell? ⟨G + 1, j, none⟩ = some u := fun j hj => by
          unfold World.cell?
          rw [hb1]
          exact ⟨_, Array.getElem?_eq_getElem (by simpa using hj)⟩
        obtain ⟨u4, q4⟩ := hq 4 (by omega)
        obtain ⟨u1, q1⟩ := hq 1 (by omega)
        have f4 := hf 4
        have f1 := hf 1
        have HB1 := Bx.mk hb1
        have HBA := Bx.mk HBA
        have HWK := Bx.mk hwk0
        have HWT := Bx.mk hwt0
        clear hb0 hb1 hwk hwt hm64 hm13 hn16 hwk0 hwt0 hf hq hcx hcy
        go_upto_if 50 with fail
        go_cut [] from 51 to 51 (fun wx => ∃ wt' : Int, (-1 ≤ wt' ∧ wt' ≤ 3) ∧ wx.heap[G + 1]? = some (.cells #[.int .i64 0, .int .i64 wk, .int .i64 (m64 : Int), .slice (some ⟨G, 0, none⟩) 2 2, .int .i64 wt'] 69) ∧ Below G wr wx ∧ wx.heap[G]? = w1.heap[G]?)
        case first =>
          by_cases h : (m : Int) % 97 = 0
          · have hB : ((m : Int) % 97 == 0) = true := by simp [h]
            go_wp2_with fail
            go_meet
            have hs := setBlkP HB1.out 4 (.int .i64 (-1))
            simp only [List.setIfInBounds_toArray, List.set_cons_succ, List.set_cons_zero] at hs
            exact ⟨-1, by omega, hs, HBA.out.setCell (p := ⟨G + 1, 4, none⟩) (by show G ≤ G + 1; omega) _, Below.heap_setCell _ _ _ _ (by show G ≠ G + 1; omega)⟩
          · have hB : ((m : Int) % 97 == 0) = false := by simp [h]
            go_wp2_with fail
            go_meet
            have := HWT.out
            exact ⟨wt, by omega, HB1.out, HBA.out, rfl⟩
        case rest =>
        rename World => w2
        obtain ⟨wt', hwt', hb2, B2, hg2⟩ := hcut
        have HB0 := Bx.mk (hg2.trans HB0.out)
        have hGs : G + 1 < w2.heap.size := (Array.getElem?_eq_some_iff.1 hb2).1
        have hf : ∀ j, w2.frozen? ⟨G + 1, j, none⟩ = false := fun j => by simp [World.frozen?, hb2]
        have hq : ∀ j, j < 5 → ∃ u, w2.cell? ⟨G + 1, j, none⟩ = some u := fun j hj => by
          unfold World.cell?
          rw [hb2]
          exact ⟨_, Array.getElem?_eq_getElem (by simpa using hj)⟩
        obtain ⟨v1, q1⟩ := hq 1 (by omega)
        obtain ⟨v0, q0⟩ := hq 0 (by omega)
        obtain ⟨v2, q2⟩ := hq 2 (by omega)
        have f1 := hf 1
        have f0 := hf 0
        have f2 := hf 2
        have HB2 := Bx.mk hb2
        have HBA := Bx.mk B2
        have HWT := Bx.mk hwt'
        clear hb2 B2 hwt' hg2 HB1 hq hf q4 f4
        go_upto_if 54 with fail
        go_cut [] from 55 to 55 (fun wx => ∃ wk' : Int, (0 ≤ wk' ∧ wk' ≤ 9) ∧ wx.heap[G + 1]? = some (.cells #[.int .i64 0, .int .i64 wk', .int .i64 (m64 : Int), .slice (some ⟨G, 0, none⟩) 2 2, .int .i64 wt'] 69) ∧ Below G wr wx ∧ wx.heap[G]? = w2.heap[G]?)
        case first =>
          by_cases h : (n : Int) % 89 = 0
          · have hB : ((n : Int) % 89 == 0) = true := by simp [h]
            go_wp2_with fail
            go_meet
            have hs := setBlkP HB2.out 1 (.int .i64 9)
            simp only [List.setIfInBounds_toArray, List.set_cons_succ, List.set_cons_zero] at hs
            exact ⟨9, by omega, hs, HBA.out.setCell (p := ⟨G + 1, 1, none⟩) (by show G ≤ G + 1; omega) _, Below.heap_setCell _ _ _ _ (by show G ≠ G + 1; omega)⟩
          · have hB : ((n : Int) % 89 == 0) = false := by simp [h]
            go_wp2_with fail
            go_meet
            have := HWK.out
            exact ⟨wk, by omega, HB2.out, HBA.out, rfl⟩
        case rest =>
        rename World => w3
        obtain ⟨wk', hwk', hb3, B3, hg3⟩ := hcut
        have HB0 := Bx.mk (hg3.trans HB0.out)
        have hGs : G + 1 < w3.heap.size := (Array.getElem?_eq_some_iff.1 hb3).1
        have hf : ∀ j, w3.frozen? ⟨G + 1, j, none⟩ = false := fun j => by simp [World.frozen?, hb3]
        have hq : ∀ j, j < 5 → ∃ u, w3.cell? ⟨G + 1, j, none⟩ = some u := fun j hj => by
          unfold World.cell?
          rw [hb3]
          exact ⟨_, Array.getElem?_eq_getElem (by simpa using hj)⟩
        clear q1 q0 q2 f1 f0 f2
        obtain ⟨v0, q0⟩ := hq 0 (by omega)
        obtain ⟨v2, q2⟩ := hq 2 (by omega)
        have f0 := hf 0
        have f2 := hf 2
        have HB3 := Bx.mk hb3
        have HBA := Bx.mk B3
        have HWK := Bx.mk hwk'
        clear hb3 B3 hwk' hg3 HB2 hq hf
        go_upto_block 2 with fail
        go_cut [] from 56 to 85 (fun wx => ∃ kd nn : Int, PoOk ⟨kd, wk', nn, [UInt8.ofNat (n % 256), UInt8.ofNat (m % 256)], wt'⟩ ∧ wx.heap[G + 1]? = some (.cells #[.int .i64 kd, .int .i64 wk', .int .i64 nn, .slice (some ⟨G, 0, none⟩) 2 2, .int .i64 wt'] 69) ∧ Below G wr wx ∧ wx.heap[G]? = w3.heap[G]?)
        case first =>
          have fin : ∀ (kd nn : Int) (W : World), (0 ≤ kd ∧ kd ≤ 4) → (-1 ≤ nn ∧ nn ≤ 63) → (kd = 0 → nn ≤ 11) → (kd ≠ 0 → 0 ≤ nn) → W.heap[G + 1]? = some (.cells #[.int .i64 kd, .int .i64 wk', .int .i64 nn, .slice (some ⟨G, 0, none⟩) 2 2, .int .i64 wt'] 69) → Below G wr W → W.heap[G]? = w3.heap[G]? →
              ∃ kd nn : Int, PoOk ⟨kd, wk', nn, [UInt8.ofNat (n % 256), UInt8.ofNat (m % 256)], wt'⟩ ∧ W.heap[G + 1]? = some (.cells #[.int .i64 kd, .int .i64 wk', .int .i64 nn, .slice (some ⟨G, 0, none⟩) 2 2, .int .i64 wt'] 69) ∧ Below G wr W ∧ W.heap[G]? = w3.heap[G]? :=
            fun kd nn W h1 h2 h3 h4 h5 h6 h7 => ⟨kd, nn, ⟨h1, HWK.out, h2, h3, h4, by show 2 ≤ 10; omega, HWT.out⟩, h5, h6, h7⟩
          have FIN := Bx.mk fin
          have hkd : ∀ kd : Int, (w3.setCell ⟨G + 1, 0, none⟩ (.int .i64 kd)).heap[G + 1]? = some (.cells #[.int .i64 kd, .int .i64 wk', .int .i64 (m64 : Int), .slice (some ⟨G, 0, none⟩) 2 2, .int .i64 wt'] 69) := fun kd => by
            have hs := setBlkP HB3.out 0 (.int .i64 kd)
            simpa only [List.setIfInBounds_toArray, List.set_cons_succ, List.set_cons_zero] using hs
          have hkn := setBlkP (setBlkP HB3.out 0 (.int .i64 0)) 2 (.int .i64 ((m13 : Int) - 1))
          simp only [List.setIfInBounds_toArray, List.set_cons_succ, List.set_cons_zero] at hkn
          have hbb : ∀ (W : World) (j : Nat) (u : Value), Below G wr W → Below G wr (W.setCell ⟨G + 1, j, none⟩ u) := fun W j u h => h.setCell (p := ⟨G + 1, j, none⟩) (by show G ≤ G + 1; omega) u
          have hgg : ∀ (W : World) (j : Nat) (u : Value), (W.setCell ⟨G + 1, j, none⟩ u).heap[G]? = W.heap[G]? := fun W j u => Below.heap_setCell _ _ _ _ (by show G ≠ G + 1; omega)
          have HKD := Bx.mk hkd
          have HKN := Bx.mk hkn
          have HBB := Bx.mk hbb
          have HGG := Bx.mk hgg
          clear fin hkd hkn hbb hgg
          by_cases h3 : n16 ≤ 3
          · rcases (show n16 = 0 ∨ n16 = 1 ∨ n16 = 2 ∨ n16 = 3 by omega) with rfl | rfl | rfl | rfl
            all_goals
              clear b16 h3
              push_cast at hn16I
              go_wp2_with fail
              go_meet
              exact FIN.out 0 ((m13 : Int) - 1) _ (by omega) (by omega) (fun _ => by omega) (fun h => absurd rfl h) HKN.out (HBB.out _ _ _ (HBB.out _ _ _ HBA.out)) ((HGG.out _ _ _).trans (HGG.out _ _ _))
          · by_cases h8 : n16 ≤ 8
            · rcases (show n16 = 4 ∨ n16 = 5 ∨ n16 = 6 ∨ n16 = 7 ∨ n16 = 8 by omega) with rfl | rfl | rfl | rfl | rfl
              all_goals
                clear b16 h3 h8
                push_cast at hn16I
                go_wp2_with fail
                go_meet
                exact FIN.out 1 (m64 : Int) _ (by omega) (by omega) (fun h => by cases h) (fun _ => by omega) (HKD.out 1) (HBB.out _ _ _ HBA.out) (HGG.out _ _ _)
            · by_cases h12 : n16 ≤ 12
              · rcases (show n16 = 9 ∨ n16 = 10 ∨ n16 = 11 ∨ n16 = 12 by omega) with rfl | rfl | rfl | rfl
                all_goals
                  clear b16 h3 h8 h12
                  push_cast at hn16I
                  go_wp2_with fail
                  go_meet
                  exact FIN.out 2 (m64 : Int) _ (by omega) (by omega) (fun h => by cases h) (fun _ => by omega) (HKD.out 2) (HBB.out _ _ _ HBA.out) (HGG.out _ _ _)
              · rcases (show n16 = 13 ∨ n16 = 14 ∨ n16 = 15 by omega) with rfl | rfl | rfl
                · clear b16 h3 h8 h12
                  push_cast at hn16I
                  go_wp2_with fail
                  go_meet
                  exact FIN.out 3 (m64 : Int) _ (by omega) (by omega) (fun h => by cases h) (fun _ => by omega) (HKD.out 3) (HBB.out _ _ _ HBA.out) (HGG.out _ _ _)
                · clear b16 h3 h8 h12
                  push_cast at hn16I
                  go_wp2_with fail
                  go_meet
                  exact FIN.out 3 (m64 : Int) _ (by omega) (by omega) (fun h => by cases h) (fun _ => by omega) (HKD.out 3) (HBB.out _ _ _ HBA.out) (HGG.out _ _ _)
                · clear b16 h3 h8 h12
                  push_cast at hn16I
                  go_wp2_with fail
                  go_meet
                  exact FIN.out 4 (m64 : Int) _ (by omega) (by omega) (fun h => by cases h) (fun _ => by omega) (HKD.out 4) (HBB.out _ _ _ HBA.out) (HGG.out _ _ _)
        case rest =>
        rename World => w4
        obtain ⟨kd, nn, hok, hb4, B4, hg4⟩ := hcut
        have hG4 := hg4.trans HB0.out
        clear q0 q2 f0 f2 HB3 HBA HB0 hg4
        have hGs4 : G + 1 < w4.heap.size := (Array.getElem?_eq_some_iff.1 hb4).1
        have q0 : w4.cell? ⟨G + 1, 0, none⟩ = some (.int .i64 kd) := by simp [World.cell?, hb4]
        have q1 : w4.cell? ⟨G + 1, 1, none⟩ = some (.int .i64 wk') := by simp [World.cell?, hb4]
        have q2 : w4.cell? ⟨G + 1, 2, none⟩ = some (.int .i64 nn) := by simp [World.cell?, hb4]
        have q3 : w4.cell? ⟨G + 1, 3, none⟩ = some (.slice (some ⟨G, 0, none⟩) 2 2) := by simp [World.cell?, hb4]
        have q4 : w4.cell? ⟨G + 1, 4, none⟩ = some (.int .i64 wt') := by simp [World.cell?, hb4]
        have hRb : Rv w4 (.slice (some ⟨G, 0, none⟩) 2 2) 2 ([UInt8.ofNat (n % 256), UInt8.ofNat (m % 256)].map vB) := by
          have e1 : (Value.int .u8 ((n : Int) % 256)) = vB (UInt8.ofNat (n % 256)) := by unfold vB; congr 1; rw [UInt8.toNat_ofNat']; omega
          have e2 : (Value.int .u8 ((m : Int) % 256)) = vB (UInt8.ofNat (m % 256)) := by unfold vB; congr 1; rw [UInt8.toNat_ofNat']; omega
          rw [e1, e2] at hG4
          refine ⟨some ⟨G, 0, none⟩, 2, rfl, Nat.le_refl _, by decide, (fun h => by cases h), .inr ⟨G, 0, rfl, fun i u hu => ?_⟩⟩
          unfold World.cell?
          rw [hG4]
          show (#[vB (UInt8.ofNat (n % 256)), vB (UInt8.ofNat (m % 256))] : Array Value)[0 + i]? = some u
          rw [Nat.zero_add]
          simpa using hu
        have hGw : w.heap.size ≤ G := by omega
        have HOK := Bx.mk hok
        have HRB := Bx.mk hRb
        have HB4 := Bx.mk B4
        have HO4 := Bx.mk (HO.out.later (B4.mono (by omega)))
        have hX := Rv.lit w4 [.int .i64 kd, .int .i64 wk', .int .i64 nn, .slice (some ⟨G, 0, none⟩) 2 2, .int .i64 wt'] 69 1 (by decide)
        have hw4 : w.heap.size ≤ w4.heap.size := by have := B4.size; omega
        have O4 := HO4.out.own.alloc (.cells #[.int .i64 kd, .int .i64 wk', .int .i64 nn, .slice (some ⟨G, 0, none⟩) 2 2, .int .i64 wt'] 69)
        rw [HK.out] at O4
        clear hb4 B4 hok hRb hG4
        go_wp2_with (at_builtin; go_loud (refine wpList_app2 _ rfl _ _ rfl Try.elPo w.heap.size (.slice oa k oc) k _ rfl O4 _ 1 _ rfl hX rfl (by simp [Value.oneCell']) (by omega) (by simp; omega) ?_; intro v5 w5 O5 g5 s5; refine later ?_))
        refine Later.in ?_
        have BA := (Below.refl w4.heap.size w4).alloc (Nat.le_refl _) (.cells #[.int .i64 kd, .int .i64 wk', .int .i64 nn, .slice (some ⟨G, 0, none⟩) 2 2, .int .i64 wt'] 69)
        have HREL : Bx (PsL w.heap.size w5 v5 (L ++ [⟨⟨kd, wk', nn, [UInt8.ofNat (n % 256), UInt8.ofNat (m % 256)], wt'⟩, .slice (some ⟨G, 0, none⟩) 2 2⟩]) ∧ Below w.heap.size w w5) := ⟨by
          refine ⟨(HO4.out.later BA).app (p := ⟨⟨kd, wk', nn, [UInt8.ofNat (n % 256), UInt8.ofNat (m % 256)], wt'⟩, .slice (some ⟨G, 0, none⟩) 2 2⟩) (by rw [HK.out]; exact O5) g5 s5 ⟨HRB.out.below BA, HOK.out⟩ (fun g hg => ?_), ?_⟩
          · obtain rfl : G = g := Option.some.inj hg
            refine ⟨by omega, by rw [World.size_alloc]; omega, fun e => ?_⟩
            have := (HO.out.own.lt G e).2
            omega
          · exact (((HBB.out.trans (HB4.out.mono (by omega)))).alloc hw4 _).grown g5 (by simp; omega) (fun g hg => (HO4.out.own.lt g hg).1)⟩
        obtain ⟨L5, hL5⟩ : ∃ l, (L ++ [⟨⟨kd, wk', nn, [UInt8.ofNat (n % 256), UInt8.ofNat (m % 256)], wt'⟩, .slice (some ⟨G, 0, none⟩) 2 2⟩] : List PV) = l := ⟨_, rfl⟩
        have hL5l : L5.length = k + 1 := by rw [← hL5, List.length_append, HK.out]; rfl
        rw [hL5] at HREL
        have HLL := Bx.mk hL5l
        obtain ⟨a5, c5, rfl⟩ := own_isSlice O5
        clear hL5 hL5l O5 g5 s5 O4 hX q0 q1 q2 q3 q4 BA
        go_wp2_with fail
        go_roundw
        case rel => exact ⟨i + 2, L5, by simp, by have := HLL.out; have := HI.out; omega, by have := HLL.out; omega, HREL.out.1, HREL.out.2⟩
        case measure => have := HI.out; simp [intOf]; omega
      · have hl6I : ¬ (k : Int) < (most : Int) := by omega
        clear hO hk
        go_wp2_with fail
        go_ret
        exact ⟨_, rfl, L, hOk, by have := HK.out; omega, hB⟩
    · have hltI : ¬ (i : Int) + 1 < (N : Int) := by omega
      clear hO hk
      go_wp2_with fail
      go_ret
      exact ⟨_, rfl, L, hOk, by have := HK.out; omega, hB⟩
end Go.Proofs.Ytfdacckkdjpjhaa
