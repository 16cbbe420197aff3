/- Package journal: Scan. -/
import Derived.Test.YtpehnggglolnoaaJrnH
import Derived.Test.YtpehnggglolnoaaStp
import Derived.Sort.QuietIn
import Derived.Sort.CutIn
namespace Go.Proofs.Ytpehnggglolnoaa
open Go.RowKit Go.Shelf

attribute [local go_sem] Oper.semAt_some

/-- The list under way: its row, and each element's. -/
structure LsE (W : World) (lo base : Nat) (v : Value) (xs : List El) : Prop where
  own : W.ownsRow base 49 1 v xs.length (xs.map (·.1))
  each : ∀ x ∈ xs, W.ownsRow lo 5 1 x.1 x.2.1.length (x.2.1.map vB)
theorem LsE.ge {W : World} {lo base : Nat} {v : Value} {xs : List El} (h : LsE W lo base v xs) : ∀ u ∈ xs.map (·.1), ∀ g, u.ownBlock = some g → lo ≤ g := by
  intro u hu
  obtain ⟨x, hx, rfl⟩ := List.mem_map.1 hu
  exact fun g hg => ((h.each x hx).lt g hg).1
theorem LsE.to {W : World} {lo base : Nat} {v : Value} {xs : List El} (h : LsE W lo base v xs) : LsO W base v (xs.map (·.1)) (xs.map (·.2.1)) := by
  refine ⟨by rw [List.length_map]; exact h.own, ?_, ?_, ?_, ?_⟩
  · intro u hu
    obtain ⟨x, hx, rfl⟩ := List.mem_map.1 hu
    obtain ⟨k, a, c, e⟩ := own_shape (h.each x hx)
    rw [e]; rfl
  · intro i hi u hu
    rw [List.length_map] at hi
    rw [List.getElem?_map, List.getElem?_eq_getElem hi] at hu
    cases hu
    rw [List.getElem_map]
    exact Rv.of_own (h.each _ (List.getElem_mem hi))
  · intro u hu
    obtain ⟨x, hx, rfl⟩ := List.mem_map.1 hu
    exact fun g hg => ((h.each x hx).lt g hg).2
  · intro u hu g hg hg2
    obtain ⟨x, hx, rfl⟩ := List.mem_map.1 hu
    exact own_types (h.each x hx) h.own (by decide) g hg hg2
theorem LsE.stays {W W' : World} {lo base : Nat} {v : Value} {xs : List El} {row : Option Nat} (h : LsE W lo base v xs) (hg : W.grownBy W' row) (hrow : ∀ r, row = some r → ∃ o : Obj, W.heap[r]? = some o ∧ o.isCells = false) : LsE W' lo base v xs :=
  ⟨own_stays h.own hg hrow, fun x hx => own_stays (h.each x hx) hg hrow⟩

theorem LsE.step {W w2 : World} {s : Nat} {v v' u : Value} {pre : List El} {x : El} {tmp : Obj} (hv : Boxed W s 26 v) (h1 : Boxed W (s + 1) 3 u) (hL : LsE W s (s + 3) v pre)
    (hx : W.ownsRow s 5 1 x.1 x.2.1.length (x.2.1.map vB)) (hown' : w2.ownsRow (s + 3) 49 1 v' (pre.length + 1) (pre.map (·.1) ++ [x.1])) (hgrow : (W.alloc tmp).grownBy w2 v.ownBlock) (y : Value) :
    LsE ((w2.setCell ⟨s, 0, none⟩ v').setCell ⟨s + 1, 0, none⟩ y) s (s + 3) v' (pre ++ [x]) := by
  have hv2 : Boxed w2 s 26 v := (hv.alloc tmp).kept hgrow (own_ne hL.own (by omega)).symm
  have h2 : Boxed w2 (s + 1) 3 u := (h1.alloc tmp).kept hgrow (own_ne hL.own (by omega)).symm
  have h3 : Boxed (w2.setCell ⟨s, 0, none⟩ v') (s + 1) 3 u := (Below.heap_setCell _ _ _ _ (by simp)).trans h2
  have hrow : ∀ {b e n z xs}, W.ownsRow b e 1 z n xs → e ≠ 49 → 26 ≠ e → 3 ≠ e → ((w2.setCell ⟨s, 0, none⟩ v').setCell ⟨s + 1, 0, none⟩ y).ownsRow b e 1 z n xs := fun h a b c =>
    own_unboxed (own_unboxed (own_beside (h.alloc tmp) (hL.own.alloc tmp) a hgrow) hv2 b _) h3 c _
  refine ⟨?_, ?_⟩
  · rw [List.length_append, List.length_singleton, List.map_append]
    exact (hown'.kept (grownBy_setCell' w2 s v') (.inr (own_ne hown' (by omega)))).kept (grownBy_setCell' _ (s + 1) y) (.inr (own_ne hown' (by omega)))
  · intro z hz
    rcases List.mem_append.1 hz with hz | hz
    · exact hrow (hL.each z hz) (by decide) (by decide) (by decide)
    · rw [List.mem_singleton.1 hz]; exact hrow hx (by decide) (by decide) (by decide)
theorem records_stops (X : Nat → Prop) (B n : Nat) (hn : 1 ≤ n) (Bs m cap : Nat) (ao : Option Addr) (bs : List UInt8) (hm : m = bs.length) (hlen : bs.length ≤ 1000000000) (w : World) (hBs : w.cell? ⟨Bs, 0, none⟩ = some (.slice ao m cap)) (hBB : Bs < B) (hBX : ¬ X Bs)
    (hBW : B ≤ w.heap.size) (hc : bs.length ≤ cap) (hcm : cap ≤ maxLen) (hrd : Rd w ao (bs.map vB)) (hno : ao = none → cap = 0) (hb : ∀ b off, ao = some ⟨b, off, none⟩ → 0 < bs.length → b < B ∧ ¬ X b) :
    SeqE Fence.wide n Try.prog 89 #[.pointer (some ⟨Bs, 0, none⟩)] (fun x : El => #[x.1, .int .i64 x.2.2]) (ElIn Bs) (KeepX X B) (scanS bs) w :=
  fun l J Jx W hW hJ _ hY h0 =>
    records1_in X n hn l Bs B cap ao bs hlen J Jx W (fun pre A C hp hAC => hJ pre A C none hp ⟨hAC.os, hAC.tape, hAC.output, hAC.size, fun k hk _ => hAC.block k hk⟩ (fun r e => by cases e)) hY ((hW.cell (p := ⟨Bs, 0, none⟩) (World.block_lt_of_cell? w _ hBs)).trans (hm ▸ hBs)) hBB hBX
      (Nat.le_trans hBW hW.size) hc hcm (hrd.below hW) hno hb h0

theorem keepX3 {s : Nat} {W W' : World} (hB : Below s W W') (h2 : W'.heap[s + 2]? = W.heap[s + 2]?) : KeepX (fun k => s ≤ k ∧ k ≠ s + 2) (s + 3) W W' := fun k hk hX => by
  by_cases h : k < s
  · exact hB.block k h
  · have : k = s + 2 := by omega
    rw [this]; exact h2

/-- As ScanPost; the records lie in blocks of the call's own. -/
def ScanPostG (w : World) (bs : List UInt8) (en : Ending) (w' : World) : Prop := ∃ v us, en = .returned (.tuple #[v, .int .i64 ((scanL bs).2 : Int)]) ∧ LsO w' w.heap.size v us (scanL bs).1 ∧ (∀ u ∈ us, ∀ g, u.ownBlock = some g → w.heap.size ≤ g) ∧ Below w.heap.size w w'
def ScanPost (w : World) (bs : List UInt8) (en : Ending) (w' : World) : Prop := ∃ v us, en = .returned (.tuple #[v, .int .i64 ((scanL bs).2 : Int)]) ∧ LsO w' w.heap.size v us (scanL bs).1 ∧ Below w.heap.size w w'

set_option maxRecDepth 100000 in
set_option maxHeartbeats 4000000 in
theorem scan_anyG (v : Value) (bs : List UInt8) (w : World) (hv : Rv w v bs.length (bs.map vB)) (hl : bs.length ≤ 1000000000) :
    Calls Try.prog 29 #[v] w (ScanPostG w bs) := by
  refine (callsIn_wide (n := 5)).1 ?_
  obtain ⟨ao, cap, rfl, hc, hcm, hno, hrd⟩ := hv
  refine callsIn_of_wp_marks Try.func29 rfl trivial ?_ rfl
  simp only [Try.ntmps29, List.size_toArray, List.length_cons, List.length_nil, Nat.reduceAdd, Nat.reduceSub, Array.replicate_succ, Array.replicate_zero, List.push_toArray, List.append_toArray, List.nil_append, List.cons_append]
  gi_wp2_with (refine ⟨trivial, ?_⟩; gi_at_call 69; refine (records_in _ _ _ _ _).mono ?_; rintro e w' ⟨rfl, rfl⟩)
  have b0 := Boxed.new w 26 (.slice none 0 0)
  have b1 := Boxed.new (w.alloc (.cells #[.slice none 0 0] 26)) 3 (.int .i64 0)
  have b2 := Boxed.new ((w.alloc (.cells #[.slice none 0 0] 26)).alloc (.cells #[.int .i64 0] 3)) 49 (.slice ao bs.length cap)
  have B0 : Below w.heap.size w (((w.alloc (.cells #[.slice none 0 0] 26)).alloc (.cells #[.int .i64 0] 3)).alloc (.cells #[.slice ao bs.length cap] 49)) :=
    (((Below.refl _ w).alloc (Nat.le_refl _) _).alloc (by simp) _).alloc (by simp; omega) _
  have b0 := (b0.alloc (.cells #[.int .i64 0] 3)).alloc (.cells #[.slice ao bs.length cap] 49)
  have b1 := b1.alloc (.cells #[.slice ao bs.length cap] 49)
  have hs0 : (((w.alloc (.cells #[.slice none 0 0] 26)).alloc (.cells #[.int .i64 0] 3)).alloc (.cells #[.slice ao bs.length cap] 49)).heap.size = w.heap.size + 3 := by simp
  generalize ((w.alloc (.cells #[.slice none 0 0] 26)).alloc (.cells #[.int .i64 0] 3)).alloc (.cells #[.slice ao bs.length cap] 49) = W0 at *
  simp only [World.size_alloc, Nat.add_assoc, Nat.reduceAdd] at b0 b1 b2 ⊢
  have hbX : ∀ b off, ao = some ⟨b, off, none⟩ → 0 < bs.length → b < w.heap.size + 3 ∧ ¬ (w.heap.size ≤ b ∧ b ≠ w.heap.size + 2) := by
    rintro b off rfl h0
    obtain ⟨b2, off2, he, hcx⟩ := hrd.cell (i := 0) (u := vB (bs[0]'h0)) (by simp [h0])
    cases he
    have := World.block_lt_of_cell? _ _ hcx
    simp at this
    omega
  refine wpIn_rangeFunc_E rfl (by omega) (gf := 89) (lb := #[.pointer (some ⟨w.heap.size + 2, 0, none⟩)]) rfl trivial (enters_of Try.func89 (by kernel_rfl) rfl)
    (records_stops (fun k => w.heap.size ≤ k ∧ k ≠ w.heap.size + 2) (w.heap.size + 3) (5 - 1) (by omega) (w.heap.size + 2) bs.length cap ao bs rfl hl W0 b2.cell (by omega) (by omega) (by omega) hc hcm (hrd.below B0) hno hbX)
    (fun h k => h.trans k) (keepX_b (by omega)) (Below.refl _ _) (fun _ => rfl)
    (fun pre W => (((∃ v, Boxed W w.heap.size 26 v ∧ LsE W w.heap.size (w.heap.size + 3) v pre) ∧ Boxed W (w.heap.size + 1) 3 (.int .i64 (lastEnd pre))) ∧ Boxed W (w.heap.size + 2) 49 (.slice ao bs.length cap)) ∧ Below w.heap.size w W)
    (fun _ _ _ => False)
    (OwnFrom.and (OwnFrom.and (OwnFrom.and (fun pre W W' row ⟨v, hv, hL⟩ hg hr => ⟨v, boxed_own (β := Unit) w.heap.size 26 (fun _ => v) () W W' row hv hg (fun r e => (hr r e).2), hL.stays hg (fun r e => (hr r e).2)⟩)
      (Own.from (boxed_own (β := List El) (w.heap.size + 1) 3 (fun pre => .int .i64 (lastEnd pre))) _)) (Own.from (boxed_own (β := List El) (w.heap.size + 2) 49 (fun _ => .slice ao bs.length cap)) _)) (ownFrom_below (Nat.le_refl _) (by omega)))
    (fun c _ _ _ _ h _ _ => h) (fun pre x W W' row h hg hr => ⟨own_stays h.1 hg (fun r e => (hr r e).2), h.2⟩)
    ⟨⟨⟨⟨_, b0, World.ownsRow_nil .., by simp⟩, b1⟩, b2⟩, B0⟩
    (fun x => { tmps := #[.slice ao bs.length cap, undef, .slice none 0 0, .int .i64 0, .pointer (some ⟨w.heap.size, 0, none⟩), .pointer (some ⟨w.heap.size + 1, 0, none⟩), x.1, .int .i64 x.2.2, .slice ao bs.length cap, .func (.func 89) #[] #[.pointer (some ⟨w.heap.size + 2, 0, none⟩)], x.1, .int .i64 x.2.2, undef, undef, undef, undef, undef, undef, undef], defers := [] }) ?assign ?body ?done ?stop
  case assign =>
    intro l x W K hK
    gi_wp2
    exact hK
  case body =>
    rintro l pre x W ⟨⟨⟨⟨v, hv, hL⟩, h1⟩, h2⟩, hB⟩ hx
    have hcv := hv.cell
    have hc1 := h1.cell
    have hf1 := h1.frozen
    have hsz := hB.size
    have hz := h2.lt
    obtain ⟨xv, xb, xe⟩ := x
    obtain ⟨hx, hpl⟩ := hx
    simp only at hx
    replace hx := own_base hx (base' := w.heap.size) (by omega)
    obtain ⟨k6, a6, c6, rfl⟩ := own_shape hx
    have hrn := hL.own
    have hone := Rv.one W (.slice a6 k6 c6) 49
    have hne := own_ne hrn (k := w.heap.size) (by omega)
    have hne1 := own_ne hrn (k := w.heap.size + 1) (by omega)
    have hne2 := own_ne hrn (k := w.heap.size + 2) (by omega)
    gi_wp2_with (gi_at_builtin; refine wpListIn_app _ rfl _ _ rfl Try.elS (w.heap.size + 3) v pre.length _ rfl (hrn.alloc _) (.slice (some ⟨W.heap.size, 0, none⟩) 1 1) 1 [.slice a6 k6 c6] rfl hone rfl (ones1 _ rfl) (by omega) (by simp; omega) ?_; intro v' w2 hown' hgrow _; obtain ⟨g', cap', rfl⟩ := ownsRow_succ hown'; have hv2 : Boxed w2 w.heap.size 26 v := (Boxed.alloc hv _).kept hgrow hne.symm; have hc2 := hv2.cell; have hf2 := hv2.frozen; have h12 : Boxed w2 (w.heap.size + 1) 3 (.int .i64 (lastEnd pre)) := (Boxed.alloc h1 _).kept hgrow hne1.symm; have hc12 := h12.cell; have hf12 := h12.frozen)
    obtain ⟨_, hv2', _, hk2, hb2⟩ := Boxed.appended hv (by decide) (own_base hrn (base' := w.heap.size) (by omega)) hsz (Nat.le_refl _) (own_base hown' (base' := w.heap.size) (by omega)) hgrow
    have hLs := LsE.step (x := (.slice a6 k6 c6, xb, xe)) hv h1 hL hx hown' hgrow (.int .i64 xe)
    have hB3 := hb2.setCell (p := ⟨w.heap.size + 1, 0, none⟩) (by simp) (.int .i64 xe)
    have h2k : ((w2.setCell ⟨w.heap.size, 0, none⟩ (.slice (some ⟨g', 0, none⟩) (pre.length + 1) cap')).setCell ⟨w.heap.size + 1, 0, none⟩ (.int .i64 xe)).heap[w.heap.size + 2]? = W.heap[w.heap.size + 2]? := by
      rw [Below.heap_setCell _ _ _ _ (by simp), Below.heap_setCell _ _ _ _ (by simp), hgrow.block _ (by simp; omega) hne2.symm, Below.heap_alloc _ _ _ (by omega)]
    refine ⟨(hk2.trans (KeepsOthers.setCell _ _ _)).from _, keepX3 hB3 h2k, ⟨⟨⟨_, (Below.heap_setCell _ _ _ _ (by simp)).trans hv2', hLs⟩, ?_⟩, h2k.trans h2⟩, hB.trans hB3⟩
    rw [show lastEnd (pre ++ [(Value.slice a6 k6 c6, xb, xe)]) = xe from by simp [lastEnd]]
    exact Boxed.set _ ((Below.heap_setCell _ _ _ _ (by simp)).trans h12)
  case done =>
    rintro D xs W hD ⟨hs1, hs2⟩ ⟨⟨⟨⟨v, hv, hL⟩, h1⟩, h2⟩, hB⟩ hK
    have hcv := hv.cell
    have hc1 := h1.cell
    gi_upto_region 8 with fail
    gi_quiet (fail)
    gi_wp2
    refine ⟨by simp, .inl ⟨_, _, rfl, run_takeDeferred hK, _, results_tmp2 rfl _ _ _, ?_⟩⟩
    have hKn : (W.drewN nq).heap[D]? = some (.deferred (some [])) := hK
    have hLn : LsE (W.drewN nq) w.heap.size (w.heap.size + 3) v xs := ⟨hL.own, hL.each⟩
    have hO0 := hLn.stays (grownBy_putObj' (W.drewN nq) D (.deferred none)) (fun r e => by cases e; exact ⟨_, hKn, rfl⟩)
    have hO := hO0.to
    rw [hs1] at hO
    exact ⟨v, _, rfl, hO.based (by omega), hO0.ge, (belD hB nq).trans (belowK_b (w := w) (Nat.le_refl _) (W.drewN nq) D _ _ (by omega) hKn rfl rfl)⟩
  case stop =>
    rintro D c pre W hD h hK
    exact h.elim
theorem scan_any (v : Value) (bs : List UInt8) (w : World) (hv : Rv w v bs.length (bs.map vB)) (hl : bs.length ≤ 1000000000) :
    Calls Try.prog 29 #[v] w (ScanPost w bs) :=
  (scan_anyG v bs w hv hl).mono fun _ _ ⟨v, us, h1, h2, _, h4⟩ => ⟨v, us, h1, h2, h4⟩
end Go.Proofs.Ytpehnggglolnoaa
