/- Lists of operations on a disk: Ops. -/
import Derived.Test.YtmofakcpldbbmaaMdJ
import Derived.Deep.AppendLies
import Derived.Deep.CutBlock
import Derived.Deep.RegionLaw
namespace Go.Proofs.Ytmofakcpldbbmaa
open Go.RowKit

theorem Try.infoOp : (Try.prog.info? 56).map (fun i => (i.zero, i.size, i.bytes)) = some (some (.agg #[.int .i64 0, .int .i64 0, .int .i64 0, .slice none 0 0, .slice none 0 0]), 5, 72) := by kernel_rfl
theorem Try.elOp : Elem Try.prog 52 56 (.agg #[.int .i64 0, .int .i64 0, .int .i64 0, .slice none 0 0, .slice none 0 0]) 5 72 := ⟨Try.underlying52, Try.infoOp, rfl, by decide, by decide⟩
/-- An operation, plainly. -/
structure OpD where
  k : Int
  f : Int
  n : Int
  b : List UInt8
  keep : List Int
structure OpOk (o : OpD) : Prop where
  n : -1000 ≤ o.n ∧ o.n ≤ 1000
  b : o.b.length ≤ 10
  keep : ∀ x ∈ o.keep, x ≤ 9223372036854775807
/-- An operation and where its two slices lie. -/
structure OV where
  o : OpD
  bv : Value
  kv : Value
def OV.cells (q : OV) : List Value := [.int .i64 q.o.k, .int .i64 q.o.f, .int .i64 q.o.n, q.bv, q.kv]
def ovcells (l : List OV) : List Value := l.flatMap OV.cells
theorem ovcells_len (l : List OV) : (ovcells l).length = l.length * 5 := by
  induction l with
  | nil => rfl
  | cons p l ih =>
    have : ovcells (p :: l) = p.cells ++ ovcells l := rfl
    rw [this, List.length_append, ih, List.length_cons]
    simp [OV.cells]
    omega
theorem ovcells_at : ∀ (l : List OV) (i j : Nat) (q : OV), l[i]? = some q → j < 5 → (ovcells l)[i * 5 + j]? = q.cells[j]?
  | [], i, j, q, h, _ => by simp at h
  | p :: l, 0, j, q, h, hj => by
    simp only [List.getElem?_cons_zero, Option.some.injEq] at h
    subst h
    have : ovcells (p :: l) = p.cells ++ ovcells l := rfl
    rw [this, List.getElem?_append_left (by simp [OV.cells]; omega)]
    congr 1
    omega
  | p :: l, i + 1, j, q, h, hj => by
    have h2 := ovcells_at l i j q (by simpa using h) hj
    have : ovcells (p :: l) = p.cells ++ ovcells l := rfl
    rw [this, List.getElem?_append_right (by simp [OV.cells]; omega)]
    rw [← h2]
    congr 1
    simp [OV.cells]
    omega
/-- What an operation's slices are. -/
structure OvRd (W : World) (q : OV) : Prop where
  b : Rv W q.bv q.o.b.length (q.o.b.map vB)
  keep : Rv W q.kv q.o.keep.length (q.o.keep.map (Value.int .i64))
  ok : OpOk q.o
theorem OvRd.below {W W' : World} {q : OV} (h : OvRd W q) (B : Below W.heap.size W W') : OvRd W' q := ⟨h.b.below B, h.keep.below B, h.ok⟩
theorem OvRd.step {W W' : World} {q : OV} {X X' : Nat → Prop} (h : OvRd W q) (S : DStep X X' W W') (hb : Off q.bv X) (hk : Off q.kv X) : OvRd W' q := ⟨rv_step h.b S hb, rv_step h.keep S hk, h.ok⟩
/-- A list of operations that is the call's own; what they are made of is new and apart from the row. -/
structure OsL (B : Nat) (W : World) (v : Value) (l : List OV) : Prop where
  own : W.ownsRow B 56 5 v l.length (ovcells l)
  rd : ∀ p ∈ l, OvRd W p
  low : ∀ p ∈ l, ∀ g, (p.bv.ownBlock = some g ∨ p.kv.ownBlock = some g) → B ≤ g ∧ g < W.heap.size ∧ v.ownBlock ≠ some g
theorem OsL.empty (B : Nat) (w : World) : OsL B w (.slice none 0 0) [] := ⟨World.ownsRow_nil _ _ _ _, (fun _ h => by cases h), (fun _ h => by cases h)⟩
theorem OsL.later {B : Nat} {W W' : World} {v : Value} {l : List OV} (h : OsL B W v l) (hB : Below W.heap.size W W') : OsL B W' v l :=
  ⟨own_below h.own hB, fun p hp => (h.rd p hp).below hB, fun p hp g hg => ⟨(h.low p hp g hg).1, Nat.lt_of_lt_of_le (h.low p hp g hg).2.1 hB.size, (h.low p hp g hg).2.2⟩⟩
/-- Where what turns lies elsewhere. -/
theorem OsL.step {B : Nat} {W W' : World} {v : Value} {l : List OV} {X X' : Nat → Prop} (h : OsL B W v l) (S : DStep X X' W W') (hX : ∀ b, X b → b < B) : OsL B W' v l :=
  ⟨own_same h.own (fun b hb => S.block b (h.own.lt b hb).2 (fun hx => by have := (h.own.lt b hb).1; have := hX b hx; omega)), fun p hp => (h.rd p hp).step S (fun b hb hx => by have := (h.low p hp b (.inl hb)).1; have := hX b hx; omega) (fun b hb hx => by have := (h.low p hp b (.inr hb)).1; have := hX b hx; omega),
    fun p hp g hg => ⟨(h.low p hp g hg).1, Nat.lt_of_lt_of_le (h.low p hp g hg).2.1 S.size, (h.low p hp g hg).2.2⟩⟩
theorem OsL.app {B : Nat} {W W' : World} {v v' : Value} {l : List OV} {p : OV} (h : OsL B W v l) (ho : W'.ownsRow B 56 5 v' (l.length + 1) (ovcells l ++ p.cells)) (hg : W.grownBy W' v.ownBlock) (hs : SameOrNew W v v')
    (hc : OvRd W p) (hl : ∀ g, (p.bv.ownBlock = some g ∨ p.kv.ownBlock = some g) → B ≤ g ∧ g < W.heap.size ∧ v.ownBlock ≠ some g) : OsL B W' v' (l ++ [p]) := by
  have far : ∀ (q : OV), (∀ g, (q.bv.ownBlock = some g ∨ q.kv.ownBlock = some g) → B ≤ g ∧ g < W.heap.size ∧ v.ownBlock ≠ some g) → OvRd W q → OvRd W' q := fun q hq hc =>
    ⟨rvSame hc.b (fun g hgl e => hg.block g hgl (fun e2 => (hq g (.inl e)).2.2 e2.symm)), rvSame hc.keep (fun g hgl e => hg.block g hgl (fun e2 => (hq g (.inr e)).2.2 e2.symm)), hc.ok⟩
  have lo : ∀ (q : OV), (∀ g, (q.bv.ownBlock = some g ∨ q.kv.ownBlock = some g) → B ≤ g ∧ g < W.heap.size ∧ v.ownBlock ≠ some g) → ∀ g, (q.bv.ownBlock = some g ∨ q.kv.ownBlock = some g) → B ≤ g ∧ g < W'.heap.size ∧ v'.ownBlock ≠ some g := fun q hq g hg2 => by
    obtain ⟨h1, h2, h3⟩ := hq g hg2
    refine ⟨h1, Nat.lt_of_lt_of_le h2 hg.size, fun e => ?_⟩
    rcases hs with hs | hs
    · rw [hs] at e; exact h3 e
    · have := hs g e; omega
  refine ⟨?_, fun q hq => ?_, fun q hq => ?_⟩
  · have e : ovcells (l ++ [p]) = ovcells l ++ p.cells := by simp [ovcells]
    rw [e, List.length_append]
    exact ho
  · rcases List.mem_append.1 hq with hq | hq
    · exact far q (h.low q hq) (h.rd q hq)
    · obtain rfl := List.mem_singleton.1 hq
      exact far q hl hc
  · rcases List.mem_append.1 hq with hq | hq
    · exact lo q (h.low q hq)
    · obtain rfl := List.mem_singleton.1 hq
      exact lo q hl
/-- The cells of one operation. -/
theorem OsL.at {B : Nat} {W : World} {g n c : Nat} {l : List OV} (h : OsL B W (.slice (some ⟨g, 0, none⟩) n c) l) {i : Nat} {q : OV} (hi : l[i]? = some q) : ∀ j, j < 5 → W.cell? ⟨g, i * 5 + j, none⟩ = q.cells[j]? := fun j hj => by
  have hlt := (List.getElem?_eq_some_iff.1 hi).1
  have hn : n = l.length := by
    rcases h.own.2 with ⟨e, _⟩ | ⟨g', cap, cur, e, _⟩
    · cases e
    · injection e
  have := h.own
  rw [← hn] at this
  rw [this.cellAt (j := i * 5 + j) (by rw [hn]; omega)]
  exact ovcells_at l i j q hi hj
theorem own_isSliceN {w : World} {base size : Nat} {e : TypeId} {v : Value} {n : Nat} {xs : List Value} (h : w.ownsRow base e size v n xs) : ∃ a c, v = .slice a n c := by
  rcases h.2 with ⟨rfl, rfl⟩ | ⟨g, cap, cur, rfl, _⟩
  · exact ⟨_, _, rfl⟩
  · exact ⟨_, _, rfl⟩
theorem u8val (y : Int) : Value.int .u8 (IntKind.u8.wrap y) = vB (UInt8.ofNat (IntKind.u8.wrap y).toNat) := by
  unfold vB
  congr 1
  rw [UInt8.toNat_ofNat', IntKind.wrap_u8]
  omega
theorem own_vb {W : World} {base k : Nat} {e : TypeId} {v : Value} {bs : List UInt8} {u : Value} {c : UInt8} (h : W.ownsRow base e 1 v (k + 1) (bs.map vB ++ [u])) (hu : u = vB c) (hk : bs.length = k) : W.ownsRow base e 1 v (bs ++ [c]).length ((bs ++ [c]).map vB) := by
  rw [List.length_append, List.map_append, List.length_singleton, hk]
  rw [hu] at h
  exact h
set_option linter.unusedSimpArgs false in
set_option maxRecDepth 20000 in
set_option maxHeartbeats 2000000 in
theorem ops_any (v : Value) (l : List Int) (w : World) (hv : Rv w v l.length (l.map (Value.int .i64))) (hx : ∀ x ∈ l, -9223372036854775808 ≤ x ∧ x ≤ 9223372036854775807) :
    Calls Try.prog 28 #[v] w fun e w' => ∃ v' L, e = .returned v' ∧ OsL w.heap.size w' v' L ∧ L.length ≤ 16 ∧ Below w.heap.size w w' := by
  obtain ⟨ao, cap, rfl, hcap, hrd⟩ := hv.opened
  have HX := Bx.mk hx
  clear hx
  go_enter Try.func28, Try.ntmps28
  go_wp2_with fail
  go_loopw [3, 4] (fun ov iv wr => ∃ (i : Nat) (L : List OV), iv = .int .i64 (i : Int) ∧ i ≤ l.length ∧ i ≤ 16 ∧ L.length ≤ i ∧ OsL w.heap.size wr ov L ∧ Below w.heap.size w wr) (fun _ iv _ => 16 - (intOf iv).toNat)
  case atStart => exact ⟨0, [], rfl, Nat.zero_le _, Nat.zero_le _, Nat.le_refl _, OsL.empty _ _, Below.refl _ w⟩
  case round =>
    obtain ⟨i, L, rfl, hi, hi6, hL, hO, hB⟩ := hrel
    have hsz := hB.size
    by_cases hlt : i < l.length
    · by_cases hl6 : i < 16
      · obtain ⟨b2, off2, ha, hcx⟩ := rv_at (hv.below hB) (List.getElem?_eq_getElem hlt)
        subst ha
        have HX2 := Bx.mk (HX.out l[i] (List.getElem_mem hlt))
        obtain ⟨x, hx⟩ : ∃ x, l[i] = x := ⟨_, rfl⟩
        rw [hx] at hcx HX2
        clear hx
        go_wp2_with fail
        refine (around_nat (wrap64 (x.tdiv 16)) 4096 (by omega) (by unfold wrap64; omega) (by unfold wrap64; omega) (by omega) _).mono ?_
        rintro e w1 ⟨n, hn, _, rfl, rfl⟩
        go_upto_region 7 with fail
        have BA := (Below.refl wr.heap.size wr).alloc (Nat.le_refl _) (.cells #[.int .i64 0, .int .i64 ((n : Int) % 3), .int .i64 0, .slice none 0 0, .slice none 0 0] 56)
        have hblk := World.alloc_heap_new wr (.cells #[.int .i64 0, .int .i64 ((n : Int) % 3), .int .i64 0, .slice none 0 0, .slice none 0 0] 56)
        have hcx1 := (BA.cell (World.block_lt_of_cell? wr _ hcx)).trans hcx
        generalize wr.alloc (.cells #[.int .i64 0, .int .i64 ((n : Int) % 3), .int .i64 0, .slice none 0 0, .slice none 0 0] 56) = w1 at BA hblk hcx1 ⊢
        obtain ⟨H, hH⟩ : ∃ H, wr.heap.size = H := ⟨_, rfl⟩
        rw [hH] at hblk ⊢
        go_wp2_with fail
        refine (around_nat x 16 (by omega) HX2.out.1 HX2.out.2 (by omega) _).mono ?_
        rintro e w2 ⟨c, hc, _, rfl, rfl⟩
        have hHw : H < w1.heap.size := (Array.getElem?_eq_some_iff.1 hblk).1
        have q0 : w1.cell? ⟨H, 0, none⟩ = some (.int .i64 0) := by simp [World.cell?, hblk]
        have q1 : w1.cell? ⟨H, 1, none⟩ = some (.int .i64 ((n : Int) % 3)) := by simp [World.cell?, hblk]
        have q2 : w1.cell? ⟨H, 2, none⟩ = some (.int .i64 0) := by simp [World.cell?, hblk]
        have q3 : w1.cell? ⟨H, 3, none⟩ = some (.slice none 0 0) := by simp [World.cell?, hblk]
        have q4 : w1.cell? ⟨H, 4, none⟩ = some (.slice none 0 0) := by simp [World.cell?, hblk]
        have qf : ∀ j, w1.frozen? ⟨H, j, none⟩ = false := fun j => by simp [World.frozen?, hblk]
        have HB1 := Bx.mk hblk
        have HBA := Bx.mk BA
        clear hblk BA
        go_upto_block 2 with fail
        go_cut [] from 31 to 106 (fun wx => ∃ q : OV, wx.heap[H]? = some (.cells q.cells.toArray 56 (0, 0)) ∧ OvRd wx q ∧ (∀ g, (q.bv.ownBlock = some g ∨ q.kv.ownBlock = some g) → H < g ∧ g < wx.heap.size) ∧ Below wr.heap.size wr wx)
        case first =>
          have fin0 : ∀ (W : World) (k f m : Int), W.heap[H]? = some (.cells #[.int .i64 k, .int .i64 f, .int .i64 m, .slice none 0 0, .slice none 0 0] 56 (0, 0)) → -1000 ≤ m ∧ m ≤ 1000 → Below wr.heap.size wr W →
              ∃ q : OV, W.heap[H]? = some (.cells q.cells.toArray 56 (0, 0)) ∧ OvRd W q ∧ (∀ g, (q.bv.ownBlock = some g ∨ q.kv.ownBlock = some g) → H < g ∧ g < W.heap.size) ∧ Below wr.heap.size wr W := fun W k f m hb hm hB =>
            ⟨⟨⟨k, f, m, [], []⟩, .slice none 0 0, .slice none 0 0⟩, hb, ⟨Rv.nil _, Rv.nil _, hm, Nat.zero_le _, (fun x hx => by cases hx)⟩, (fun g hg => by rcases hg with hg | hg <;> cases hg), hB⟩
          have FIN0 := Bx.mk fin0
          have hbel : ∀ (W : World), Below wr.heap.size wr W → ∀ j u, Below wr.heap.size wr (W.setCell ⟨H, j, none⟩ u) := fun W hB j u => hB.setCell (p := ⟨H, j, none⟩) (by rw [hH]; exact Nat.le_refl _) u
          have HBEL := Bx.mk hbel
          clear fin0 hbel
          by_cases h01 : c = 0 ∨ c = 1
          · have s1 := setBlk HB1.out 0 (.int .i64 1)
            simp only [List.setIfInBounds_toArray, List.set_cons_succ, List.set_cons_zero] at s1
            have HS1 := Bx.mk s1
            clear s1
            rcases h01 with rfl | rfl
            · go_wp2_with fail
              go_meet
              exact FIN0.out _ _ _ _ HS1.out (by omega) (HBEL.out _ HBA.out _ _)
            · go_wp2_with fail
              go_meet
              exact FIN0.out _ _ _ _ HS1.out (by omega) (HBEL.out _ HBA.out _ _)
          · by_cases h2 : c = 2
            · subst h2
              have s1 := setBlk (setBlk HB1.out 0 (.int .i64 2)) 2 (.int .i64 ((n : Int) / 3 % 9 - 1))
              simp only [List.setIfInBounds_toArray, List.set_cons_succ, List.set_cons_zero] at s1
              have HS1 := Bx.mk s1
              clear s1
              go_wp2_with fail
              go_meet
              exact FIN0.out _ _ _ _ HS1.out (by omega) (HBEL.out _ (HBEL.out _ HBA.out _ _) _ _)
            · by_cases h3 : c = 3
              · subst h3
                have s1 := setBlk (setBlk HB1.out 0 (.int .i64 3)) 2 (.int .i64 ((n : Int) / 3 % 7 - 1))
                simp only [List.setIfInBounds_toArray, List.set_cons_succ, List.set_cons_zero] at s1
                have HS1 := Bx.mk s1
                clear s1
                go_wp2_with fail
                go_meet
                exact FIN0.out _ _ _ _ HS1.out (by omega) (HBEL.out _ (HBEL.out _ HBA.out _ _) _ _)
              · by_cases h45 : c = 4 ∨ c = 5
                · have s1 := setBlk (setBlk HB1.out 0 (.int .i64 4)) 2 (.int .i64 ((n : Int) / 4 % 40 - 4))
                  simp only [List.setIfInBounds_toArray, List.set_cons_succ, List.set_cons_zero] at s1
                  have B1 := HBEL.out _ (HBEL.out _ HBA.out 0 (.int .i64 4)) 2 (.int .i64 ((n : Int) / 4 % 40 - 4))
                  obtain ⟨k4, hk4⟩ : ∃ k, n / 125 % 4 = k := ⟨_, rfl⟩
                  have hk4i : (n : Int) / 125 % 4 = (k4 : Int) := by omega
                  have hk43 : k4 ≤ 3 := by omega
                  have hmain : ∀ (w5 : World) (G : Nat), w5.heap.size = G → w5.heap[H]? = some (.cells #[.int .i64 4, .int .i64 ((n : Int) % 3), .int .i64 ((n : Int) / 4 % 40 - 4), .slice none 0 0, .slice (some ⟨G, 0, none⟩) k4 3] 56 (0, 0)) → Below wr.heap.size wr w5 →
                      ∃ q : OV, (w5.alloc (.cells #[.int .i64 ((n : Int) % 5 - 1), .int .i64 ((n : Int) / 5 % 5), .int .i64 ((n : Int) / 25 % 5)] 3)).heap[H]? = some (.cells q.cells.toArray 56 (0, 0)) ∧ OvRd (w5.alloc (.cells #[.int .i64 ((n : Int) % 5 - 1), .int .i64 ((n : Int) / 5 % 5), .int .i64 ((n : Int) / 25 % 5)] 3)) q ∧ (∀ g, (q.bv.ownBlock = some g ∨ q.kv.ownBlock = some g) → H < g ∧ g < (w5.alloc (.cells #[.int .i64 ((n : Int) % 5 - 1), .int .i64 ((n : Int) / 5 % 5), .int .i64 ((n : Int) / 25 % 5)] 3)).heap.size) ∧ Below wr.heap.size wr (w5.alloc (.cells #[.int .i64 ((n : Int) % 5 - 1), .int .i64 ((n : Int) / 5 % 5), .int .i64 ((n : Int) / 25 % 5)] 3)) := by
                    rintro w3 G rfl hb3 B3
                    have hH3 : H < w3.heap.size := (Array.getElem?_eq_some_iff.1 hb3).1
                    have hbA := (Below.heap_alloc w3 (.cells #[.int .i64 ((n : Int) % 5 - 1), .int .i64 ((n : Int) / 5 % 5), .int .i64 ((n : Int) / 25 % 5)] 3) H hH3).trans hb3
                    have RA := Rv.lit w3 [.int .i64 ((n : Int) % 5 - 1), .int .i64 ((n : Int) / 5 % 5), .int .i64 ((n : Int) / 25 % 5)] 3 3 (by decide)
                    have BA3 := B3.alloc (by omega) (.cells #[.int .i64 ((n : Int) % 5 - 1), .int .i64 ((n : Int) / 5 % 5), .int .i64 ((n : Int) / 25 % 5)] 3)
                    have hsz3 : (w3.alloc (.cells #[.int .i64 ((n : Int) % 5 - 1), .int .i64 ((n : Int) / 5 % 5), .int .i64 ((n : Int) / 25 % 5)] 3)).heap.size = w3.heap.size + 1 := by simp
                    generalize w3.alloc (.cells #[.int .i64 ((n : Int) % 5 - 1), .int .i64 ((n : Int) / 5 % 5), .int .i64 ((n : Int) / 25 % 5)] 3) = w4 at hbA RA BA3 hsz3 ⊢
                    obtain ⟨ar, cr, e, _, hF⟩ := RA.firsts k4 hk43
                    have hR4 := hF k4 rfl
                    injection e with e1 e2 e3
                    subst e1 e3
                    have hkl : ([(n : Int) % 5 - 1, (n : Int) / 5 % 5, (n : Int) / 25 % 5].take k4).length = k4 := by rw [List.length_take]; simp; omega
                    refine ⟨⟨⟨4, (n : Int) % 3, (n : Int) / 4 % 40 - 4, [], [(n : Int) % 5 - 1, (n : Int) / 5 % 5, (n : Int) / 25 % 5].take k4⟩, .slice none 0 0, .slice (some ⟨w3.heap.size, 0, none⟩) k4 3⟩, hbA, ⟨Rv.nil _, ?_, ⟨by show -1000 ≤ (n : Int) / 4 % 40 - 4 ∧ (n : Int) / 4 % 40 - 4 ≤ 1000; omega, Nat.zero_le _, fun x hx => ?_⟩⟩, fun g hg => ?_, BA3⟩
                    · show Rv _ _ ([(n : Int) % 5 - 1, (n : Int) / 5 % 5, (n : Int) / 25 % 5].take k4).length (([(n : Int) % 5 - 1, (n : Int) / 5 % 5, (n : Int) / 25 % 5].take k4).map (Value.int .i64))
                      rw [hkl, List.map_take]
                      exact hR4
                    · have hx2 := List.mem_of_mem_take hx
                      simp only [List.mem_cons, List.not_mem_nil, or_false] at hx2
                      rcases hx2 with rfl | rfl | rfl <;> omega
                    · rcases hg with hg | hg
                      · cases hg
                      · have : w3.heap.size = g := Option.some.inj hg
                        omega
                  have HMAIN := Bx.mk hmain
                  have HS1 := Bx.mk s1
                  have HBB := Bx.mk B1
                  clear hmain s1 B1 hk4
                  have hq4 : ∀ W : World, W.heap[H]? = some (.cells #[.int .i64 4, .int .i64 ((n : Int) % 3), .int .i64 ((n : Int) / 4 % 40 - 4), .slice none 0 0, .slice none 0 0] 56 (0, 0)) → W.cell? ⟨H, 4, none⟩ = some (.slice none 0 0) ∧ ∀ j, W.frozen? ⟨H, j, none⟩ = false := fun W hb => ⟨by simp [World.cell?, hb], fun j => by simp [World.frozen?, hb]⟩
                  have HQ4 := Bx.mk hq4
                  clear hq4
                  rcases h45 with rfl | rfl
                  · go_upto_region 25 with fail
                    have hb3 := HS1.out
                    have B3 := HBB.out
                    obtain ⟨c4, cf⟩ := HQ4.out _ hb3
                    generalize (w1.setCell ⟨H, 0, none⟩ (.int .i64 4)).setCell ⟨H, 2, none⟩ (.int .i64 ((n : Int) / 4 % 40 - 4)) = w3 at hb3 B3 c4 cf ⊢
                    have hHw3 : H < w3.heap.size := (Array.getElem?_eq_some_iff.1 hb3).1
                    have hb5 := setBlk (setBlk hb3 4 (.slice (some ⟨w3.heap.size, 0, none⟩) 3 3)) 4 (.slice (some ⟨w3.heap.size, 0, none⟩) k4 3)
                    simp only [List.setIfInBounds_toArray, List.set_cons_succ, List.set_cons_zero] at hb5
                    have hFIN := Bx.mk (HMAIN.out _ w3.heap.size (by rw [World.size_setCell, World.size_setCell]) hb5 ((B3.setCell (p := ⟨H, 4, none⟩) (by rw [hH]; exact Nat.le_refl _) _).setCell (p := ⟨H, 4, none⟩) (by rw [hH]; exact Nat.le_refl _) _))
                    clear hb3 B3 hb5
                    go_wp2_with fail
                    go_meet
                    exact hFIN.out
                  · go_upto_region 25 with fail
                    have hb3 := HS1.out
                    have B3 := HBB.out
                    obtain ⟨c4, cf⟩ := HQ4.out _ hb3
                    generalize (w1.setCell ⟨H, 0, none⟩ (.int .i64 4)).setCell ⟨H, 2, none⟩ (.int .i64 ((n : Int) / 4 % 40 - 4)) = w3 at hb3 B3 c4 cf ⊢
                    have hHw3 : H < w3.heap.size := (Array.getElem?_eq_some_iff.1 hb3).1
                    have hb5 := setBlk (setBlk hb3 4 (.slice (some ⟨w3.heap.size, 0, none⟩) 3 3)) 4 (.slice (some ⟨w3.heap.size, 0, none⟩) k4 3)
                    simp only [List.setIfInBounds_toArray, List.set_cons_succ, List.set_cons_zero] at hb5
                    have hFIN := Bx.mk (HMAIN.out _ w3.heap.size (by rw [World.size_setCell, World.size_setCell]) hb5 ((B3.setCell (p := ⟨H, 4, none⟩) (by rw [hH]; exact Nat.le_refl _) _).setCell (p := ⟨H, 4, none⟩) (by rw [hH]; exact Nat.le_refl _) _))
                    clear hb3 B3 hb5
                    go_wp2_with fail
                    go_meet
                    exact hFIN.out
                · by_cases h6 : c = 6
                  · subst h6
                    have s1 := setBlk (setBlk HB1.out 1 (.int .i64 ((n : Int) % 70 - 3))) 3 (.slice (some ⟨w1.heap.size, 0, none⟩) 1 1)
                    simp only [List.setIfInBounds_toArray, List.set_cons_succ, List.set_cons_zero] at s1
                    have B1 := HBEL.out _ (HBEL.out _ HBA.out 1 (.int .i64 ((n : Int) % 70 - 3))) 3 (.slice (some ⟨w1.heap.size, 0, none⟩) 1 1)
                    have hmain : ∀ (w5 : World) (G : Nat), w5.heap.size = G → w5.heap[H]? = some (.cells #[.int .i64 0, .int .i64 ((n : Int) % 70 - 3), .int .i64 0, .slice (some ⟨G, 0, none⟩) 1 1, .slice none 0 0] 56 (0, 0)) → Below wr.heap.size wr w5 →
                        ∃ q : OV, (w5.alloc (.cells #[.int .u8 1] 5)).heap[H]? = some (.cells q.cells.toArray 56 (0, 0)) ∧ OvRd (w5.alloc (.cells #[.int .u8 1] 5)) q ∧ (∀ g, (q.bv.ownBlock = some g ∨ q.kv.ownBlock = some g) → H < g ∧ g < (w5.alloc (.cells #[.int .u8 1] 5)).heap.size) ∧ Below wr.heap.size wr (w5.alloc (.cells #[.int .u8 1] 5)) := by
                      rintro w3 G rfl hb3 B3
                      have hH3 : H < w3.heap.size := (Array.getElem?_eq_some_iff.1 hb3).1
                      exact ⟨⟨⟨0, (n : Int) % 70 - 3, 0, [1], []⟩, .slice (some ⟨w3.heap.size, 0, none⟩) 1 1, .slice none 0 0⟩, (Below.heap_alloc w3 _ H hH3).trans hb3, ⟨Rv.one w3 (vB 1) 5, Rv.nil _, ⟨by show -1000 ≤ (0 : Int) ∧ (0 : Int) ≤ 1000; omega, by show 1 ≤ 10; omega, (fun x hx => by cases hx)⟩⟩, (fun g hg => by
                        rcases hg with hg | hg
                        · have : w3.heap.size = g := Option.some.inj hg
                          rw [World.size_alloc]
                          omega
                        · cases hg), B3.alloc (by omega) _⟩
                    have hFIN := Bx.mk (hmain _ w1.heap.size (by rw [World.size_setCell, World.size_setCell]) s1 B1)
                    clear hmain s1 B1
                    go_wp2_with fail
                    go_meet
                    exact hFIN.out
                  · have d0 : ((c : Int) == 0) = false := by simpa using fun e => h01 (.inl e)
                    have d1 : ((c : Int) == 1) = false := beq_eq_false_iff_ne.2 (fun e => h01 (.inr (by omega)))
                    have d2 : ((c : Int) == 2) = false := beq_eq_false_iff_ne.2 (fun e => h2 (by omega))
                    have d3 : ((c : Int) == 3) = false := beq_eq_false_iff_ne.2 (fun e => h3 (by omega))
                    have d4 : ((c : Int) == 4) = false := beq_eq_false_iff_ne.2 (fun e => h45 (.inl (by omega)))
                    have d5 : ((c : Int) == 5) = false := beq_eq_false_iff_ne.2 (fun e => h45 (.inr (by omega)))
                    have d6 : ((c : Int) == 6) = false := beq_eq_false_iff_ne.2 (fun e => h6 (by omega))
                    obtain ⟨N, hN⟩ : ∃ N, n / 3 % 6 = N := ⟨_, rfl⟩
                    have hNi : (n : Int) / 3 % 6 = (N : Int) := by omega
                    have hN6 : N < 6 := by omega
                    clear h01 h2 h3 h45 h6 hN
                    go_wp2_with fail
                    go_loopw [7] (fun kv W => ∃ (k : Nat) (bs : List UInt8) (bv : Value), kv = .int .i64 (k : Int) ∧ k ≤ N ∧ bs.length = k ∧ W.heap[H]? = some (.cells #[.int .i64 0, .int .i64 ((n : Int) % 3), .int .i64 0, bv, .slice none 0 0] 56 (0, 0)) ∧ W.ownsRow (H + 1) 5 1 bv k (bs.map vB) ∧ Below wr.heap.size wr W) (fun kv _ => N - (intOf kv).toNat)
                    case atStart => exact ⟨0, [], .slice none 0 0, rfl, Nat.zero_le _, rfl, HB1.out, World.ownsRow_nil _ _ _ _, HBA.out⟩
                    case round =>
                      clear q0 q1 q2 q3 q4 qf
                      rename World => W
                      obtain ⟨k, bs, bv, rfl, hk, hbl, hb, hown, hBi⟩ := hrel
                      by_cases hkl : k < N
                      · have hkli : (k : Int) < (N : Int) := by omega
                        have q3 : W.cell? ⟨H, 3, none⟩ = some bv := by simp [World.cell?, hb]
                        have qf : ∀ j, W.frozen? ⟨H, j, none⟩ = false := fun j => by simp [World.frozen?, hb]
                        have hcxW := (hBi.cell (World.block_lt_of_cell? wr _ hcx)).trans hcx
                        have hHW : H < W.heap.size := (Array.getElem?_eq_some_iff.1 hb).1
                        obtain ⟨av, cv, rfl⟩ := own_isSlice hown
                        have HBI := Bx.mk hBi
                        have HBK := Bx.mk hb
                        have HBL := Bx.mk hbl
                        have q3d : W.drew.cell? ⟨H, 3, none⟩ = some (.slice av k cv) := q3
                        have hcxd : W.drew.cell? ⟨b2, off2 + i, none⟩ = some (.int .i64 x) := hcxW
                        clear hBi hb hbl
                        go_upto_region 11 with fail
                        refine wp_region_held_drew (S := fun W' => W'.cell? ⟨b2, off2 + i, none⟩ = some (.int .i64 x)) (by kernel_rfl) hcxd (fun _ => ?_)
                        refine wpAnyH_do 0 39 rfl rfl (by kernel_rfl) (by kernel_rfl) (by kernel_rfl) (fun _ _ _ _ _ h => h) (by kernel_rfl) (fun W hS => by (obtain s1 := hS); go_simp; try with_reducible rfl) hcxd ?_
                        simp only [List.setIfInBounds_toArray, List.set_cons_succ, List.set_cons_zero]
                        refine wpAnyH_do 2 41 rfl rfl (by kernel_rfl) (by kernel_rfl) (by kernel_rfl) (fun _ _ _ _ _ h => h) (by kernel_rfl) (fun W hS => by (obtain s1 := hS); go_simp; try with_reducible rfl) hcxd ?_
                        simp only [List.setIfInBounds_toArray, List.set_cons_succ, List.set_cons_zero]
                        refine wpAnyH_do 3 42 rfl rfl (by kernel_rfl) (by kernel_rfl) (by kernel_rfl) (fun _ _ _ _ _ h => h) (by kernel_rfl) (fun W hS => by (obtain s1 := hS); go_simp; try with_reducible rfl) hcxd ?_
                        simp only [List.setIfInBounds_toArray, List.set_cons_succ, List.set_cons_zero]
                        refine wpAnyH_do 4 43 rfl rfl (by kernel_rfl) (by kernel_rfl) (by kernel_rfl) (fun _ _ _ _ _ h => h) (by kernel_rfl) (fun W hS => by (obtain s1 := hS); go_simp; try with_reducible rfl) hcxd ?_
                        simp only [List.setIfInBounds_toArray, List.set_cons_succ, List.set_cons_zero]
                        refine wpAnyH_do 5 44 rfl rfl (by kernel_rfl) (by kernel_rfl) (by kernel_rfl) (fun _ _ _ _ _ h => h) (by kernel_rfl) (fun W hS => by (obtain s1 := hS); go_simp; try with_reducible rfl) hcxd ?_
                        simp only [List.setIfInBounds_toArray, List.set_cons_succ, List.set_cons_zero]
                        refine wpAnyH_do 6 45 rfl rfl (by kernel_rfl) (by kernel_rfl) (by kernel_rfl) (fun _ _ _ _ _ h => h) (by kernel_rfl) (fun W hS => by (obtain s1 := hS); go_simp; try with_reducible rfl) hcxd ?_
                        simp only [List.setIfInBounds_toArray, List.set_cons_succ, List.set_cons_zero]
                        refine wpAnyH_do 7 46 rfl rfl (by kernel_rfl) (by kernel_rfl) (by kernel_rfl) (fun _ _ _ _ _ h => h) (by kernel_rfl) (fun W hS => by (obtain s1 := hS); go_simp; try with_reducible rfl) hcxd ?_
                        simp only [List.setIfInBounds_toArray, List.set_cons_succ, List.set_cons_zero]
                        refine wpAnyH_do 8 47 rfl rfl (by kernel_rfl) (by kernel_rfl) (by kernel_rfl) (fun _ _ _ _ _ h => h) (by kernel_rfl) (fun W hS => by (obtain s1 := hS); go_simp; try with_reducible rfl) hcxd ?_
                        simp only [List.setIfInBounds_toArray, List.set_cons_succ, List.set_cons_zero]
                        refine wpAnyH_do 9 48 rfl rfl (by kernel_rfl) (by kernel_rfl) (by kernel_rfl) (fun _ _ _ _ _ h => h) (by kernel_rfl) (fun W hS => by (obtain s1 := hS); go_simp; try with_reducible rfl) hcxd ?_
                        simp only [List.setIfInBounds_toArray, List.set_cons_succ, List.set_cons_zero]
                        have hcxa : ∀ o : Obj, (W.drew.alloc o).cell? ⟨b2, off2 + i, none⟩ = some (.int .i64 x) := fun o => (((Below.refl W.heap.size W).drew.alloc (Nat.le_refl _) o).cell (World.block_lt_of_cell? W _ hcxW)).trans hcxW
                        have q3a : ∀ o : Obj, (W.drew.alloc o).cell? ⟨H, 3, none⟩ = some (.slice av k cv) := fun o => (((Below.refl W.heap.size W).drew.alloc (Nat.le_refl _) o).cell hHW).trans q3
                        have hbA : ∀ o : Obj, (W.drew.alloc o).heap[H]? = some (.cells #[.int .i64 0, .int .i64 ((n : Int) % 3), .int .i64 0, .slice av k cv, .slice none 0 0] 56 (0, 0)) := fun o => (Below.heap_alloc W.drew o H hHW).trans HBK.out
                        have HBA2 := Bx.mk hbA
                        clear hbA
                        refine wpAnyH_two 1 10 rfl rfl (by kernel_rfl) (by kernel_rfl) (by kernel_rfl) (fun K hK => ?_) (fun K hK => ?_)
                        go_simp
                        refine hK _ _ hcxd ?_
                        clear hK
                        try simp only [Act.put, List.setIfInBounds_toArray, List.set_cons_zero, List.set_cons_succ]
                        refine wpAnyH_one 10 rfl (by kernel_rfl) (by kernel_rfl) (fun K hK => ?_)
                        go_simp
                        refine hK _ _ (hcxa _) ?_
                        clear hK
                        refine later ?_
                        rotate_left
                        go_simp
                        refine hK _ _ (hcxa _) ?_
                        clear hK
                        try simp only [Act.put, List.setIfInBounds_toArray, List.set_cons_zero, List.set_cons_succ]
                        refine wpAnyH_one 1 rfl (by kernel_rfl) (by kernel_rfl) (fun K hK => ?_)
                        go_simp
                        refine hK _ _ (hcxa _) ?_
                        clear hK
                        refine later ?_
                        all_goals
                          refine Later.in ?_
                          refine wpAnyH_one 11 rfl (by kernel_rfl) (by kernel_rfl) (fun K hK => ?_)
                          refine opApp _ _ rfl Try.elB (H + 1) (.slice av k cv) k _ rfl (own_below hown ((Below.refl W.heap.size W).drew.alloc (Nat.le_refl _) _)) (.slice (some ⟨W.heap.size, 0, none⟩) 1 1) 1 [_] rfl (Rv.one _ _ _) rfl (ones1 _ rfl) (by omega) (by simp <;> omega) ?_
                          intro v7 w7 O7 g7 s7
                          obtain ⟨c7, hc7⟩ : ∃ c7 : UInt8, w7.ownsRow (H + 1) 5 1 v7 (bs ++ [c7]).length ((bs ++ [c7]).map vB) := ⟨_, own_vb O7 (u8val _) HBL.out⟩
                          rw [List.length_append, List.length_singleton, HBL.out] at hc7
                          obtain ⟨a7, cc7, rfl⟩ := own_isSlice hc7
                          have B7 := ((HBI.out.drew.alloc (by show wr.heap.size ≤ W.heap.size; omega) _).grown g7 (by simp; omega) (fun g hg => by have := (hown.lt g hg).1; omega))
                          have hcx7 := (B7.cell (World.block_lt_of_cell? wr _ hcx)).trans hcx
                          have hb7 := (g7.block H (by simp; omega) (fun e => by have := (hown.lt H e.symm).1; omega)).trans (HBA2.out _)
                          have q37 : w7.cell? ⟨H, 3, none⟩ = some (.slice av k cv) := by simp [World.cell?, hb7]
                          have qf7 : ∀ j, w7.frozen? ⟨H, j, none⟩ = false := fun j => by simp [World.frozen?, hb7]
                          clear O7 g7 s7
                          refine hK _ _ hcx7 ?_
                          clear hK
                          try simp only [Act.put, List.setIfInBounds_toArray, List.set_cons_zero, List.set_cons_succ]
                          refine wpAnyH_do 12 51 rfl rfl (by kernel_rfl) (by kernel_rfl) (by kernel_rfl) (fun _ _ _ _ _ h => h) (by kernel_rfl) (fun W hS => by (obtain s1 := hS); go_simp; try with_reducible rfl) hcx7 ?_
                          simp only [List.setIfInBounds_toArray, List.set_cons_succ, List.set_cons_zero]
                          refine wpAnyH_one 13 rfl (by kernel_rfl) (by kernel_rfl) (fun K hK => ?_)
                          go_simp
                          have B8 := B7.setCell (p := ⟨H, 3, none⟩) (by rw [hH]; exact Nat.le_refl _) (.slice a7 (k + 1) cc7)
                          have hb8 := setBlk hb7 3 (.slice a7 (k + 1) cc7)
                          simp only [List.setIfInBounds_toArray, List.set_cons_succ, List.set_cons_zero] at hb8
                          have O8 := own_same (w' := w7.setCell ⟨H, 3, none⟩ (.slice a7 (k + 1) cc7)) hc7 (fun g hg => Below.heap_setCell _ _ _ _ (fun e => by have := (hc7.lt g hg).1; have e2 : g = H := e; omega))
                          refine hK _ _ ((B8.cell (World.block_lt_of_cell? wr _ hcx)).trans hcx) ?_
                          clear hK
                          have hlen8 : (bs ++ [c7]).length = k + 1 := by rw [List.length_append, List.length_singleton, HBL.out]
                          obtain ⟨bs8, hbs8⟩ : ∃ b, bs ++ [c7] = b := ⟨_, rfl⟩
                          rw [hbs8] at O8 hlen8
                          have HREL := Bx.mk (And.intro hlen8 (And.intro hb8 (And.intro O8 B8)))
                          clear hlen8 hb8 O8 B8 hc7 hb7 q37 qf7 B7 hcx7 hbs8
                          generalize w7.setCell ⟨H, 3, none⟩ (.slice a7 (k + 1) cc7) = w8 at HREL ⊢
                          try simp only [Act.put, List.setIfInBounds_toArray, List.set_cons_zero, List.set_cons_succ]
                          refine wpAnyH_done (by kernel_rfl) ?_ _
                          go_wp2_with fail
                          go_roundw
                          case rel => exact ⟨k + 1, bs8, _, by simp, hkl, HREL.out.1, HREL.out.2.1, HREL.out.2.2.1, HREL.out.2.2.2⟩
                          case measure => simp [intOf]; omega
                      · obtain rfl : N = k := by omega
                        go_wp2_with fail
                        go_meet
                        exact ⟨⟨⟨0, (n : Int) % 3, 0, bs, []⟩, bv, .slice none 0 0⟩, hb, ⟨by have := Rv.of_own hown; rw [← hbl] at this; exact this, Rv.nil _, ⟨by show -1000 ≤ (0 : Int) ∧ (0 : Int) ≤ 1000; omega, by show bs.length ≤ 10; omega, (fun x hx => by cases hx)⟩⟩, (fun g hg => by
                          rcases hg with hg | hg
                          · have := hown.lt g hg
                            omega
                          · cases hg), hBi⟩
        case rest =>
        rename World => w3
        obtain ⟨⟨⟨k0, f0, m0, bb, kk⟩, bv, kv⟩, hb, hR, hlo, hB3⟩ := hcut
        clear q0 q1 q2 q3 q4 qf HB1 HBA hcx1 hHw
        obtain ⟨ab, cb, eb, _, _⟩ := hR.b.opened
        obtain ⟨ak, ck, ek, _, _⟩ := hR.keep.opened
        simp only at eb ek
        subst eb ek
        have hH3 : H < w3.heap.size := (Array.getElem?_eq_some_iff.1 hb).1
        simp only [OV.cells] at hb
        obtain ⟨lb, hlb⟩ : ∃ n, bb.length = n := ⟨_, rfl⟩
        obtain ⟨lk, hlk⟩ : ∃ n, kk.length = n := ⟨_, rfl⟩
        have q0 : w3.cell? ⟨H, 0, none⟩ = some (.int .i64 k0) := by simp [World.cell?, hb]
        have q1 : w3.cell? ⟨H, 1, none⟩ = some (.int .i64 f0) := by simp [World.cell?, hb]
        have q2 : w3.cell? ⟨H, 2, none⟩ = some (.int .i64 m0) := by simp [World.cell?, hb]
        have q3 : w3.cell? ⟨H, 3, none⟩ = some (.slice ab bb.length cb) := by simp [World.cell?, hb]
        have q4 : w3.cell? ⟨H, 4, none⟩ = some (.slice ak kk.length ck) := by simp [World.cell?, hb]
        have HR := Bx.mk hR
        have HLO := Bx.mk hlo
        have HB3 := Bx.mk hB3
        have HO3 := Bx.mk (hO.later hB3)
        have HLOW := Bx.mk hO.own.lt
        have hX := Rv.lit w3 [.int .i64 k0, .int .i64 f0, .int .i64 m0, .slice ab bb.length cb, .slice ak kk.length ck] 56 1 (by decide)
        have hw3 : w.heap.size ≤ w3.heap.size := by have := hB3.size; omega
        have O3 := (hO.later hB3).own.alloc (.cells #[.int .i64 k0, .int .i64 f0, .int .i64 m0, .slice ab bb.length cb, .slice ak kk.length ck] 56)
        obtain ⟨Ln, hLn⟩ : ∃ n, L.length = n := ⟨_, rfl⟩
        rw [hLn] at O3 hL
        have HLN := Bx.mk hLn
        rw [hlb] at hX O3 q3
        rw [hlk] at hX O3 q4
        have HLB := Bx.mk hlb
        have HLK := Bx.mk hlk
        clear hb hR hlo hB3 hLn hlb hlk hO
        go_wp2_with (at_builtin; go_loud (refine wpList_app2 _ rfl _ _ rfl Try.elOp w.heap.size u3 Ln _ rfl O3 _ 1 _ rfl hX rfl (by simp [Value.oneCell']) (by omega) (by simp; omega) ?_; intro v5 w5 O5 g5 s5; refine later ?_))
        refine Later.in ?_
        have hrow := HO3.out
        have hal : ∀ o : Obj, Below w3.heap.size w3 (w3.alloc o) := fun o => (Below.refl _ w3).alloc (Nat.le_refl _) o
        have hOA := hrow.later (hal (.cells #[.int .i64 k0, .int .i64 f0, .int .i64 m0, .slice ab lb cb, .slice ak lk ck] 56))
        have hRA := HR.out.below (hal (.cells #[.int .i64 k0, .int .i64 f0, .int .i64 m0, .slice ab lb cb, .slice ak lk ck] 56))
        have HREL : Bx (OsL w.heap.size w5 v5 (L ++ [⟨⟨k0, f0, m0, bb, kk⟩, .slice ab bb.length cb, .slice ak kk.length ck⟩]) ∧ Below w.heap.size w w5) := ⟨by
          refine ⟨hOA.app (p := ⟨⟨k0, f0, m0, bb, kk⟩, .slice ab bb.length cb, .slice ak kk.length ck⟩) (by rw [HLN.out, HLB.out, HLK.out]; exact O5) g5 s5 hRA (fun g hg => ?_), ?_⟩
          · obtain ⟨h1, h2⟩ := HLO.out g hg
            refine ⟨by omega, by rw [World.size_alloc]; omega, fun e => ?_⟩
            have := (HLOW.out g e).2
            omega
          · exact ((bel hB (HB3.out)).alloc hw3 _).grown g5 (by simp; omega) (fun g hg => (HLOW.out g hg).1)⟩
        have hL16 : (L ++ [⟨⟨k0, f0, m0, bb, kk⟩, .slice ab bb.length cb, .slice ak kk.length ck⟩] : List OV).length ≤ i + 1 := by rw [List.length_append, HLN.out]; simp; omega
        obtain ⟨L5, hL5⟩ : ∃ l, (L ++ [⟨⟨k0, f0, m0, bb, kk⟩, .slice ab bb.length cb, .slice ak kk.length ck⟩] : List OV) = l := ⟨_, rfl⟩
        rw [hL5] at HREL hL16
        obtain ⟨a5, c5, rfl⟩ := own_isSliceN O5
        clear hL5 hal hOA hRA hrow O5 g5 s5 O3 hX q0 q1 q2 q3 q4
        go_wp2_with fail
        go_roundw
        case rel => exact ⟨i + 1, L5, by simp, by omega, by omega, hL16, HREL.out.1, HREL.out.2⟩
        case measure => simp [intOf]; omega
      · go_wp2_with fail
        go_ret
        exact ⟨_, L, rfl, hO, by omega, hB⟩
    · go_wp2_with fail
      go_ret
      exact ⟨_, L, rfl, hO, by omega, hB⟩
end Go.Proofs.Ytmofakcpldbbmaa
