/- Package text: Decode. -/
import Derived.Test.YtmofakcpldbbmaaDoorTxtQ
import Derived.Test.YtmofakcpldbbmaaDoorTxtN
namespace Go.Proofs.YtmofakcpldbbmaaDoor
open Go.RowKit Go.Shelf

attribute [local go_sem] Oper.semAt_some

theorem results_two {fn : Func} {p q : Tmp} (hf : fn.results = #[.cell p 22, .cell q 24]) (tmps : Array Value) {w : World} {b d : Nat} {x y : Value}
    (hp : tmps.getD p undef = .pointer (some ⟨b, 0, none⟩)) (hq : tmps.getD q undef = .pointer (some ⟨d, 0, none⟩)) (h1 : w.cell? ⟨b, 0, none⟩ = some x) (h2 : w.cell? ⟨d, 0, none⟩ = some y) :
    (results fn tmps).run Tryd.prog w = .ok (.tuple #[x, y]) w := by
  have hp' : tmps[p]?.getD undef = .pointer (some ⟨b, 0, none⟩) := by simpa using hp
  have hq' : tmps[q]?.getD undef = .pointer (some ⟨d, 0, none⟩) := by simpa using hq
  simp [results, hf, hp', hq', go_sem, h1, h2, Result.andThen]

theorem own_ne {w : World} {base : Nat} {e : TypeId} {size : Nat} {v : Value} {n : Nat} {xs : List Value} (h : w.ownsRow base e size v n xs) {k : Nat} (hk : k < base) : v.ownBlock ≠ some k := by
  obtain ⟨_, ⟨rfl, _⟩ | ⟨g, cap, cur, rfl, hb, _⟩⟩ := h
  · simp [Value.ownBlock]
  · simp only [Value.ownBlock, ne_eq, Option.some.injEq]
    omega

theorem keepX6 {s : Nat} {W W' : World} (hB : Below s W W') (h4 : W'.heap[s + 4]? = W.heap[s + 4]?) (h5 : W'.heap[s + 5]? = W.heap[s + 5]?) : KeepX (fun k => s ≤ k ∧ k ≠ s + 4 ∧ k ≠ s + 5) (s + 6) W W' := fun k hk hX => by
  by_cases h : k < s
  · exact hB.block k h
  · rcases (show k = s + 4 ∨ k = s + 5 by omega) with rfl | rfl
    · exact h4
    · exact h5

/-- Two boxes turned, then the block for the deferred calls: what is left. -/
theorem decode_end {w W : World} {D : Nat} {x x' y y' : Value} {t t' : TypeId} (hB : Below w.heap.size w W) (h0 : Boxed W w.heap.size t x) (h1 : Boxed W (w.heap.size + 1) t' y) (hD : w.heap.size + 6 ≤ D) (hK : W.heap[D]? = some (.deferred (some []))) :
    ((W.setCell ⟨w.heap.size, 0, none⟩ x').setCell ⟨w.heap.size + 1, 0, none⟩ y').heap[D]? = some (.deferred (some [])) ∧
    (((W.setCell ⟨w.heap.size, 0, none⟩ x').setCell ⟨w.heap.size + 1, 0, none⟩ y').putObj D (.deferred none)).cell? ⟨w.heap.size, 0, none⟩ = some x' ∧
    (((W.setCell ⟨w.heap.size, 0, none⟩ x').setCell ⟨w.heap.size + 1, 0, none⟩ y').putObj D (.deferred none)).cell? ⟨w.heap.size + 1, 0, none⟩ = some y' ∧
    Below w.heap.size w (((W.setCell ⟨w.heap.size, 0, none⟩ x').setCell ⟨w.heap.size + 1, 0, none⟩ y').putObj D (.deferred none)) ∧
    (∀ v n xs, W.ownsRow (w.heap.size + 6) 3 1 v n xs → (((W.setCell ⟨w.heap.size, 0, none⟩ x').setCell ⟨w.heap.size + 1, 0, none⟩ y').putObj D (.deferred none)).ownsRow w.heap.size 3 1 v n xs) := by
  have hK1 : ((W.setCell ⟨w.heap.size, 0, none⟩ x').setCell ⟨w.heap.size + 1, 0, none⟩ y').heap[D]? = some (.deferred (some [])) := by
    rw [Below.heap_setCell _ _ _ _ (by simp; omega), Below.heap_setCell _ _ _ _ (by simp; omega)]; exact hK
  refine ⟨hK1, ?_, ?_, ?_, ?_⟩
  · exact Boxed.cell (t := t) ((World.putObj_heap_other (by omega)).trans ((Below.heap_setCell _ _ _ _ (by simp)).trans (h0.set _)))
  · exact Boxed.cell (t := t') ((World.putObj_heap_other (by omega)).trans (Boxed.set _ ((Below.heap_setCell _ _ _ _ (by simp)).trans h1)))
  · exact ((hB.setCell (p := ⟨w.heap.size, 0, none⟩) (Nat.le_refl _) _).setCell (p := ⟨w.heap.size + 1, 0, none⟩) (by simp) _).trans (belowK_b (w := w) (Nat.le_refl _) _ D _ _ (by omega) hK1 rfl rfl)
  · intro v n xs h
    have h2 := (h.kept (grownBy_setCell' W w.heap.size x') (.inr (own_ne h (by omega)))).kept (grownBy_setCell' _ (w.heap.size + 1) y') (.inr (own_ne h (by omega)))
    exact own_base (ownsRow_putObj h2 _ hK1 rfl) (by omega)

theorem symbolsOf_stops (X : Nat → Prop) (B n : Nat) (hn : 1 ≤ n) (Bs Br m cap : Nat) (ao : Option Addr) (bs : List UInt8) (runes : Bool) (hm : m = bs.length) (hlen : bs.length ≤ 1099511627776) (w : World) (hBs : w.cell? ⟨Bs, 0, none⟩ = some (.slice ao m cap)) (hBB : Bs < B) (hBX : ¬ X Bs) (hBr : w.cell? ⟨Br, 0, none⟩ = some (.bool runes)) (hRB : Br < B) (hRX : ¬ X Br) (hF : FM w) (hF0 : ¬ X 0) (hBW : B ≤ w.heap.size) (hc : bs.length ≤ cap) (hcm : cap ≤ maxLen) (hrd : Rd w ao (bs.map vB))
    (hb : ∀ b off, ao = some ⟨b, off, none⟩ → 0 < bs.length → b < B ∧ ¬ X b) :
    SeqStopsK Fence.wide n Tryd.prog 31 #[.pointer (some ⟨Bs, 0, none⟩), .pointer (some ⟨Br, 0, none⟩)] (fun x : Int => #[Value.int .i64 x]) (KeepX X B) (fun ys => ys = symsM runes bs.length bs) (fun pre => ∃ k, k ≤ bs.length ∧ pre = (symsM runes bs.length bs).take k) bs.length w :=
  fun l J Jx W hW hJ _ hY h0 =>
    symbolsOf1_in X n hn l Bs Br B cap ao bs runes hlen J Jx W (fun pre A C hp hAC => hJ pre A C none hp ⟨hAC.os, hAC.tape, hAC.output, hAC.size, fun k hk _ => hAC.block k hk⟩ (fun r e => by cases e)) (fun pre x W1 h1 h2 => hY pre x W1 h1 h2) ((hW.cell (p := ⟨Bs, 0, none⟩) (World.block_lt_of_cell? w _ hBs)).trans (hm ▸ hBs)) hBB hBX
      ((hW.cell (p := ⟨Br, 0, none⟩) (World.block_lt_of_cell? w _ hBr)).trans hBr) hRB hRX (hF.below hW (Nat.lt_of_lt_of_le (by omega) hBW)) hF0 (Nat.le_trans hBW hW.size) (by omega) hc hcm (hrd.below hW) hb h0

def decM (runes : Bool) (bs : List UInt8) : List Int := symsM runes bs.length bs
/-- The error of what the sequence yields. -/
def decE (ys : List Int) : Int := if (∀ y ∈ ys, 0 ≤ y) then (if ys.length ≤ 65536 then 0 else 4) else 9
def decL (ys : List Int) : List Int := if decE ys = 0 then ys else []
def DePost (w : World) (r : Int) (ys : List Int) (en : Ending) (w' : World) : Prop := ∃ v', en = .returned (.tuple #[v', .int .i64 r]) ∧ w'.ownsRow w.heap.size 3 1 v' ys.length (ys.map (Value.int .i64)) ∧ Below w.heap.size w w'

set_option maxRecDepth 100000 in
set_option maxHeartbeats 4000000 in
theorem decode_any (v : Value) (bs : List UInt8) (runes : Bool) (w : World) (hv : Rv w v bs.length (bs.map vB)) (hl : bs.length ≤ 1099511627776) (hF : FM w) :
    Calls Tryd.prog 13 #[v, .bool runes] w (DePost w (decE (decM runes bs)) (decL (decM runes bs))) := by
  have hw0 : 0 < w.heap.size := World.block_lt_of_cell? w _ (hF 0 (by omega))
  refine (callsIn_wide (n := 5)).1 ?_
  have hcm := hv
  obtain ⟨ao, cap, rfl, hc, hrd⟩ := hv.opened
  obtain ⟨_, _, h1, _, hcm, _⟩ := hcm
  cases h1
  refine callsIn_of_wp_marks Tryd.func13 rfl trivial ?_ rfl
  simp only [Tryd.ntmps13, List.size_toArray, List.length_cons, List.length_nil, Nat.reduceAdd, Nat.reduceSub, Array.replicate_succ, Array.replicate_zero, List.push_toArray, List.append_toArray, List.nil_append, List.cons_append]
  gi_wp2_with (refine ⟨trivial, ?_⟩; gi_at_call 24; refine (symbolsOf_in _ _ _ _ _ _).mono ?_; rintro e w' ⟨rfl, rfl⟩)
  have b0 := Boxed.new w 22 (.slice none 0 0)
  have b1 := Boxed.new (w.alloc (.cells #[.slice none 0 0] 22)) 24 (.int .i64 0)
  have b2 := Boxed.new ((w.alloc (.cells #[.slice none 0 0] 22)).alloc (.cells #[.int .i64 0] 24)) 22 (.slice none 0 0)
  have b3 := Boxed.new (((w.alloc (.cells #[.slice none 0 0] 22)).alloc (.cells #[.int .i64 0] 24)).alloc (.cells #[.slice none 0 0] 22)) 3 (.int .i64 0)
  have b4 := Boxed.new ((((w.alloc (.cells #[.slice none 0 0] 22)).alloc (.cells #[.int .i64 0] 24)).alloc (.cells #[.slice none 0 0] 22)).alloc (.cells #[.int .i64 0] 3)) 28 (.slice ao bs.length cap)
  have b5 := Boxed.new (((((w.alloc (.cells #[.slice none 0 0] 22)).alloc (.cells #[.int .i64 0] 24)).alloc (.cells #[.slice none 0 0] 22)).alloc (.cells #[.int .i64 0] 3)).alloc (.cells #[.slice ao bs.length cap] 28)) 4 (.bool runes)
  have B0 : Below w.heap.size w ((((((w.alloc (.cells #[.slice none 0 0] 22)).alloc (.cells #[.int .i64 0] 24)).alloc (.cells #[.slice none 0 0] 22)).alloc (.cells #[.int .i64 0] 3)).alloc (.cells #[.slice ao bs.length cap] 28)).alloc (.cells #[.bool runes] 4)) :=
    ((((((Below.refl _ w).alloc (Nat.le_refl _) _).alloc (by simp) _).alloc (by simp; omega) _).alloc (by simp; omega) _).alloc (by simp; omega) _).alloc (by simp; omega) _
  have b0 := ((((b0.alloc (.cells #[.int .i64 0] 24)).alloc (.cells #[.slice none 0 0] 22)).alloc (.cells #[.int .i64 0] 3)).alloc (.cells #[.slice ao bs.length cap] 28)).alloc (.cells #[.bool runes] 4)
  have b1 := (((b1.alloc (.cells #[.slice none 0 0] 22)).alloc (.cells #[.int .i64 0] 3)).alloc (.cells #[.slice ao bs.length cap] 28)).alloc (.cells #[.bool runes] 4)
  have b2 := ((b2.alloc (.cells #[.int .i64 0] 3)).alloc (.cells #[.slice ao bs.length cap] 28)).alloc (.cells #[.bool runes] 4)
  have b3 := (b3.alloc (.cells #[.slice ao bs.length cap] 28)).alloc (.cells #[.bool runes] 4)
  have b4 := b4.alloc (.cells #[.bool runes] 4)
  have hs0 : ((((((w.alloc (.cells #[.slice none 0 0] 22)).alloc (.cells #[.int .i64 0] 24)).alloc (.cells #[.slice none 0 0] 22)).alloc (.cells #[.int .i64 0] 3)).alloc (.cells #[.slice ao bs.length cap] 28)).alloc (.cells #[.bool runes] 4)).heap.size = w.heap.size + 6 := by simp
  generalize ((((((w.alloc (.cells #[.slice none 0 0] 22)).alloc (.cells #[.int .i64 0] 24)).alloc (.cells #[.slice none 0 0] 22)).alloc (.cells #[.int .i64 0] 3)).alloc (.cells #[.slice ao bs.length cap] 28)).alloc (.cells #[.bool runes] 4)) = W0 at *
  simp only [World.size_alloc, Nat.add_assoc, Nat.reduceAdd] at b0 b1 b2 b3 b4 b5 ⊢
  have hbX : ∀ b off, ao = some ⟨b, off, none⟩ → 0 < bs.length → b < w.heap.size + 6 ∧ ¬ (w.heap.size ≤ b ∧ b ≠ w.heap.size + 4 ∧ b ≠ w.heap.size + 5) := by
    rintro b off rfl h0
    obtain ⟨x, hx⟩ := getE h0
    obtain ⟨b2, off2, he, hcx⟩ := hrd.cell (i := 0) (u := vB x) (by simp [hx])
    cases he
    have := World.block_lt_of_cell? _ _ hcx
    simp at this
    omega
  refine wpIn_rangeFunc_ownG rfl (by omega) (gf := 31) (lb := #[.pointer (some ⟨w.heap.size + 4, 0, none⟩), .pointer (some ⟨w.heap.size + 5, 0, none⟩)]) rfl trivial (enters_of Tryd.func31 (by kernel_rfl) rfl)
    (symbolsOf_stops (fun k => w.heap.size ≤ k ∧ k ≠ w.heap.size + 4 ∧ k ≠ w.heap.size + 5) (w.heap.size + 6) (5 - 1) (by omega) (w.heap.size + 4) (w.heap.size + 5) bs.length cap ao bs runes rfl hl W0 b4.cell (by omega) (by omega) b5.cell (by omega) (by omega) (hF.below B0 hw0) (by omega) (by omega) hc hcm (hrd.below B0) hbX)
    (fun h k => h.trans k) (keepX_b (by omega)) (Below.refl _ _) (fun _ => rfl)
    (fun pre W => ((((((∃ v, Boxed W (w.heap.size + 2) 22 v ∧ W.ownsRow (w.heap.size + 6) 3 1 v (min pre.length 65536) ((pre.take 65536).map (Value.int .i64)) ∧ ∀ y ∈ pre, 0 ≤ y) ∧ Boxed W (w.heap.size + 3) 3 (.int .i64 (pre.length : Int))) ∧ Boxed W w.heap.size 22 (.slice none 0 0)) ∧ Boxed W (w.heap.size + 1) 24 (.int .i64 0)) ∧ Boxed W (w.heap.size + 4) 28 (.slice ao bs.length cap)) ∧ Boxed W (w.heap.size + 5) 4 (.bool runes)) ∧ Below w.heap.size w W)
    (fun c pre W => ((Boxed W w.heap.size 22 (.slice none 0 0) ∧ Boxed W (w.heap.size + 1) 24 (.int .i64 9)) ∧ Below w.heap.size w W) ∧ (c = .ret ∧ ∃ y ∈ pre, y < 0))
    (OwnFrom.and (OwnFrom.and (OwnFrom.and (OwnFrom.and (OwnFrom.and (OwnFrom.and (Own.from (holdsRow_own (w.heap.size + 6) (w.heap.size + 2) 22 3 1 (fun pre : List Int => min pre.length 65536) (fun pre : List Int => (pre.take 65536).map (Value.int .i64)) (fun pre _ => ∀ y ∈ pre, 0 ≤ y)) _)
      (Own.from (boxed_own (β := List Int) (w.heap.size + 3) 3 (fun pre => .int .i64 (pre.length : Int))) _)) (Own.from (boxed_own (β := List Int) w.heap.size 22 (fun _ => .slice none 0 0)) _)) (Own.from (boxed_own (β := List Int) (w.heap.size + 1) 24 (fun _ => .int .i64 0)) _)) (Own.from (boxed_own (β := List Int) (w.heap.size + 4) 28 (fun _ => .slice ao bs.length cap)) _)) (Own.from (boxed_own (β := List Int) (w.heap.size + 5) 4 (fun _ => .bool runes)) _)) (ownFrom_below (Nat.le_refl _) (by omega)))
    (fun c => OwnFrom.and (OwnFrom.and (OwnFrom.and (Own.from (boxed_own (β := List Int) w.heap.size 22 (fun _ => .slice none 0 0)) _) (Own.from (boxed_own (β := List Int) (w.heap.size + 1) 24 (fun _ => .int .i64 9)) _)) (ownFrom_below (Nat.le_refl _) (by omega))) (fun _ _ _ _ h _ _ => h))
    ⟨⟨⟨⟨⟨⟨⟨_, b2, World.ownsRow_nil .., by simp⟩, b3⟩, b0⟩, b1⟩, b4⟩, b5⟩, B0⟩
    (fun x => { tmps := #[.slice ao bs.length cap, .bool runes, undef, undef, .pointer (some ⟨w.heap.size, 0, none⟩), .pointer (some ⟨w.heap.size + 1, 0, none⟩), .pointer (some ⟨w.heap.size + 2, 0, none⟩), .pointer (some ⟨w.heap.size + 3, 0, none⟩), .int .i64 x, .slice ao bs.length cap, .bool runes, .func (.func 31) #[] #[.pointer (some ⟨w.heap.size + 4, 0, none⟩), .pointer (some ⟨w.heap.size + 5, 0, none⟩)], .int .i64 x, undef, undef, undef, undef, undef, undef, undef, undef, undef, undef, undef, undef, undef], defers := [] }) ?assign ?body ?done ?stop
  case assign =>
    intro l x W K hK
    gi_wp2
    exact hK
  case body =>
    rintro l pre x W ⟨⟨⟨⟨⟨⟨⟨v, hv, hrow, hpos⟩, h3⟩, h0⟩, h1⟩, h4⟩, h5⟩, hB⟩ hlt
    have hcv := hv.cell
    have hc3 := h3.cell
    have hf3 := h3.frozen
    have hc0 := h0.cell
    have hf0 := h0.frozen
    have hc1 := h1.cell
    have hf1 := h1.frozen
    have hsz := hB.size
    have hz := h5.lt
    have hne : v.ownBlock ≠ some (w.heap.size + 3) := own_ne hrow (by omega)
    by_cases hx : x < 0
    · have hx' : (decide (x < 0)) = true := decide_eq_true hx
      gi_wp2
      refine ⟨((KeepsOthers.setCell _ _ _).trans (KeepsOthers.setCell _ _ _)).from _, ⟨⟨(Below.heap_setCell _ _ _ _ (by simp)).trans (h0.set _), Boxed.set _ ((Below.heap_setCell _ _ _ _ (by simp)).trans h1)⟩, (hB.setCell (p := ⟨w.heap.size, 0, none⟩) (Nat.le_refl _) _).setCell (p := ⟨w.heap.size + 1, 0, none⟩) (by simp) _⟩, rfl, x, by simp, hx⟩
    · have hx' : (decide (x < 0)) = false := decide_eq_false hx
      have hpos' : ∀ y ∈ pre ++ [x], 0 ≤ y := fun y hy => (List.mem_append.1 hy).elim (hpos y) (fun e => by simp at e; omega)
      have HP := Lib.hid hpos'
      clear hpos hpos'
      have hkn : KeepsOthers W (W.setCell ⟨w.heap.size + 3, 0, none⟩ (.int .i64 ((pre.length : Int) + 1))) := KeepsOthers.setCell _ _ _
      have hBn := hB.setCell (p := ⟨w.heap.size + 3, 0, none⟩) (by simp) (.int .i64 ((pre.length : Int) + 1))
      have h3n := h3.set (.int .i64 ((pre.length : Int) + 1))
      have hfar : ∀ k, k ≠ w.heap.size + 3 → (W.setCell ⟨w.heap.size + 3, 0, none⟩ (.int .i64 ((pre.length : Int) + 1))).heap[k]? = W.heap[k]? := fun k hk => Below.heap_setCell _ _ _ _ hk
      have hrn := hrow.kept (grownBy_setCell' W (w.heap.size + 3) (.int .i64 ((pre.length : Int) + 1))) (.inr hne)
      have h0n := (hfar w.heap.size (by omega)).trans h0
      have h1n := (hfar (w.heap.size + 1) (by omega)).trans h1
      have hvn := (hfar (w.heap.size + 2) (by omega)).trans hv
      have h4n := (hfar (w.heap.size + 4) (by omega)).trans h4
      have h5n := (hfar (w.heap.size + 5) (by omega)).trans h5
      have hcn := h3n.cell
      have hcvn := Boxed.cell hvn
      have hszn : (W.setCell ⟨w.heap.size + 3, 0, none⟩ (.int .i64 ((pre.length : Int) + 1))).heap.size = W.heap.size := by simp [World.setCell]
      have hpl : ((pre ++ [x]).length : Int) = (pre.length : Int) + 1 := by simp
      have HPL := Lib.hid hpl
      clear hpl
      have e4 : (W.setCell ⟨w.heap.size + 3, 0, none⟩ (.int .i64 ((pre.length : Int) + 1))).heap[w.heap.size + 4]? = W.heap[w.heap.size + 4]? := hfar _ (by omega)
      have e5 : (W.setCell ⟨w.heap.size + 3, 0, none⟩ (.int .i64 ((pre.length : Int) + 1))).heap[w.heap.size + 5]? = W.heap[w.heap.size + 5]? := hfar _ (by omega)
      have hBw : Below w.heap.size W (W.setCell ⟨w.heap.size + 3, 0, none⟩ (.int .i64 ((pre.length : Int) + 1))) := (Below.refl _ W).setCell (p := ⟨w.heap.size + 3, 0, none⟩) (by simp) _
      have HKX := Lib.hid (keepX6 hBw e4 e5)
      have HE4 := Lib.hid e4
      have HE5 := Lib.hid e5
      clear hrow h0 h1 hv h4 h5 h3 hfar e4 e5
      by_cases hn : pre.length < 65536
      · have hn' : (decide ((pre.length : Int) + 1 ≤ 65536)) = true := decide_eq_true (by omega)
        rw [Nat.min_eq_left (by omega), List.take_of_length_le (by omega)] at hrn
        have hone := Rv.one (W.setCell ⟨w.heap.size + 3, 0, none⟩ (.int .i64 ((pre.length : Int) + 1))) (.int .i64 x) 3
        rw [hszn] at hone
        gi_wp2_with (gi_at_builtin; refine wpListIn_app _ rfl _ _ rfl Tryd.elI (w.heap.size + 6) _ pre.length _ rfl (hrn.alloc _) _ 1 [.int .i64 x] rfl hone rfl (ones1 _ rfl) (by omega) (by simp; omega) ?_; intro v' w2 hown' hgrow _; obtain ⟨g', cap', rfl⟩ := ownsRow_succ hown'; have hv2 : Boxed w2 (w.heap.size + 2) 22 v := (Boxed.alloc hvn _).kept hgrow (own_ne hrn (by omega)).symm; have hc2 := hv2.cell; have hf2 := hv2.frozen)
        obtain ⟨_, hv2', _, hk2, hb2⟩ := Boxed.appended hvn (by decide) (own_base hrn (base' := w.heap.size) (by omega)) (by omega) (by omega) (own_base hown' (base' := w.heap.size) (by omega)) hgrow
        have hkp : ∀ k t u, k < w.heap.size + 6 → k ≠ w.heap.size + 2 → Boxed (W.setCell ⟨w.heap.size + 3, 0, none⟩ (.int .i64 ((pre.length : Int) + 1))) k t u → Boxed (w2.setCell ⟨w.heap.size + 2, 0, none⟩ (.slice (some ⟨g', 0, none⟩) (pre.length + 1) cap')) k t u :=
          fun k t u h1 h2 h => (Below.heap_setCell _ _ _ _ (by simpa using h2)).trans ((h.alloc _).kept hgrow (own_ne hrn h1).symm)
        have hr6 := hown'.kept (grownBy_setCell' w2 (w.heap.size + 2) (.slice (some ⟨g', 0, none⟩) (pre.length + 1) cap')) (.inr (own_ne hown' (by omega)))
        refine ⟨(hkn.trans hk2).from _, keepX6 (hBw.trans hb2) ((hkp _ _ _ (by omega) (by omega) h4n).trans (h4n.symm.trans HE4.out)) ((hkp _ _ _ (by omega) (by omega) h5n).trans (h5n.symm.trans HE5.out)), ⟨⟨⟨⟨⟨⟨_, hv2', ?_, HP.out⟩, ?_⟩, hkp _ _ _ (by omega) (by omega) h0n⟩, hkp _ _ _ (by omega) (by omega) h1n⟩, hkp _ _ _ (by omega) (by omega) h4n⟩, hkp _ _ _ (by omega) (by omega) h5n⟩, hBn.trans hb2⟩
        · rw [← List.map_take, List.take_of_length_le (by rw [List.length_append]; simp; omega), List.length_append, List.length_singleton, Nat.min_eq_left (by omega), List.map_append]
          exact hr6
        · rw [HPL.out]; exact hkp _ _ _ (by omega) (by omega) h3n
      · have hn' : (decide ((pre.length : Int) + 1 ≤ 65536)) = false := decide_eq_false (by omega)
        gi_wp2
        refine ⟨hkn.from _, HKX.out, ⟨⟨⟨⟨⟨⟨v, hvn, ?_, HP.out⟩, ?_⟩, h0n⟩, h1n⟩, h4n⟩, h5n⟩, hBn⟩
        · rw [← List.map_take, List.take_append_of_le_length (by omega), List.length_append, Nat.min_eq_right (by omega)]
          rw [Nat.min_eq_right (by omega)] at hrn
          exact hrn
        · rw [HPL.out]; exact h3n
  case done =>
    rintro D ys W hD (rfl : ys = decM runes bs) ⟨⟨⟨⟨⟨⟨⟨v, hv, hrow, hpos⟩, h3⟩, h0⟩, h1⟩, h4⟩, h5⟩, hB⟩ hK
    have hde : decE (decM runes bs) = if (decM runes bs).length ≤ 65536 then 0 else 4 := by
      unfold decE
      rw [if_pos hpos]
    have hdl : decL (decM runes bs) = if decE (decM runes bs) = 0 then decM runes bs else [] := rfl
    clear hpos
    generalize decM runes bs = ys at *
    have HDE := Lib.hid hde
    have HDL := Lib.hid hdl
    clear hde hdl
    have hcv := hv.cell
    have hc3 := h3.cell
    have hc0 := h0.cell
    have hf0 := h0.frozen
    have hc1 := h1.cell
    have hf1 := h1.frozen
    by_cases hn : ys.length ≤ 65536
    · have hn' : (decide (65536 < (ys.length : Int))) = false := decide_eq_false (by omega)
      rw [Nat.min_eq_left hn, List.take_of_length_le hn] at hrow
      have he : decE ys = 0 := by rw [HDE.out, if_pos hn]
      have hll : decL ys = ys := by rw [HDL.out, if_pos he]
      have HA := Lib.hid he
      have HB := Lib.hid hll
      clear he hll
      obtain ⟨ao2, cap2, rfl, _, _⟩ := (Rv.of_own hrow).opened
      gi_wp2
      obtain ⟨k1, k2, k3, k4, k5⟩ := decode_end hB h0 h1 (x' := .slice ao2 ys.length cap2) (y' := .int .i64 0) (D := D) (by omega) hK
      refine ⟨by simp, .inl ⟨_, _, rfl, run_takeDeferred k1, _, results_two rfl _ rfl rfl k2 k3, ?_⟩⟩
      rw [HA.out, HB.out]
      exact ⟨_, rfl, k5 _ _ _ hrow, k4⟩
    · have hn' : (decide (65536 < (ys.length : Int))) = true := decide_eq_true (by omega)
      have he : decE ys = 4 := by rw [HDE.out, if_neg hn]
      have hll : decL ys = [] := by rw [HDL.out, if_neg (by rw [he]; decide)]
      have HA := Lib.hid he
      have HB := Lib.hid hll
      clear he hll
      gi_wp2
      obtain ⟨k1, k2, k3, k4, k5⟩ := decode_end hB h0 h1 (x' := .slice none 0 0) (y' := .int .i64 4) (D := D) (by omega) hK
      refine ⟨by simp, .inl ⟨_, _, rfl, run_takeDeferred k1, _, results_two rfl _ rfl rfl k2 k3, ?_⟩⟩
      rw [HA.out, HB.out]
      exact ⟨_, rfl, World.ownsRow_nil .., k4⟩
  case stop =>
    rintro D c pre W hD ⟨k, _, hpre⟩ ⟨⟨⟨ha, hb⟩, hB⟩, rfl, y, hy, hy0⟩ hK
    have hde : decE (decM runes bs) = 9 := by
      unfold decE
      rw [if_neg (fun h => by have := h y (List.mem_of_mem_take (hpre ▸ hy)); omega)]
    have hdl : decL (decM runes bs) = [] := by unfold decL; rw [hde]; rfl
    have HA := Lib.hid hde
    have HB := Lib.hid hdl
    clear hde hdl
    gi_wp2
    have q0 := Boxed.cell (W := W.putObj D (.deferred none)) ((World.putObj_heap_other (by omega)).trans ha)
    have q1 := Boxed.cell (W := W.putObj D (.deferred none)) ((World.putObj_heap_other (by omega)).trans hb)
    refine ⟨by simp, .inl ⟨_, _, rfl, run_takeDeferred hK, _, results_two rfl _ rfl rfl q0 q1, ?_⟩⟩
    rw [HA.out, HB.out]
    exact ⟨_, rfl, World.ownsRow_nil .., hB.trans (belowK_b (w := w) (Nat.le_refl _) W D _ _ (by omega) hK rfl rfl)⟩
end Go.Proofs.YtmofakcpldbbmaaDoor
