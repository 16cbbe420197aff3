/- Package pool: each, the iterator over the tasks. -/
import Derived.Test.YtfdacckkdjpjhaaPlI
import Derived.Test.YtfdacckkdjpjhaaRngE
namespace Go.Proofs.Ytfdacckkdjpjhaa
open Go.RowKit Go.Shelf

attribute [local go_sem] Oper.semAt_some

/-- The row that the slice in block b's first cell owns. -/
def ownAt (b : Nat) (W : World) : Option Nat := (W.cell? ⟨b, 0, none⟩).bind (·.ownBlock)
/-- What a round leaves: below any bound that the row of the slice in block l keeps: all cells, and all blocks below B, but those of X. -/
structure KeepO (l : Nat) (X : Nat → Prop) (B : Nat) (W W' : World) : Prop where
  size : W.heap.size ≤ W'.heap.size
  same : ∀ lo, lo ≤ W.heap.size → (∀ k, ownAt l W = some k → lo ≤ k) → (∀ k, ownAt l W' = some k → lo ≤ k) ∧ ∀ k, k < lo → ¬ X k → (k < B ∨ ∃ o : Obj, W.heap[k]? = some o ∧ o.isCells = true) → W'.heap[k]? = W.heap[k]?
section
variable {l B : Nat} {X : Nat → Prop} {W W' W'' : World}
theorem KeepO.refl (l : Nat) (X : Nat → Prop) (B : Nat) (W : World) : KeepO l X B W W := ⟨Nat.le_refl _, fun _ _ h => ⟨h, fun _ _ _ _ => rfl⟩⟩
theorem KeepO.trans (h : KeepO l X B W W') (g : KeepO l X B W' W'') : KeepO l X B W W'' := by
  refine ⟨Nat.le_trans h.size g.size, fun lo hlo ho => ?_⟩
  obtain ⟨h1, h2⟩ := h.same lo hlo ho
  obtain ⟨g1, g2⟩ := g.same lo (Nat.le_trans hlo h.size) h1
  exact ⟨g1, fun k hk hx hc => (g2 k hk hx (hc.imp id (fun ⟨o, q, c⟩ => ⟨o, (h2 k hk hx hc).trans q, c⟩))).trans (h2 k hk hx hc)⟩
theorem KeepO.put (hl : l < B) {b : Nat} {o o' : Obj} (hb : B ≤ b) (ho : W.heap[b]? = some o) (hc : o.isCells = false) : KeepO l X B W (W.putObj b o') := by
  have hlb : l ≠ b := by omega
  have hs : (W.putObj b o').heap.size = W.heap.size := by simp [World.putObj]
  have hown : ownAt l (W.putObj b o') = ownAt l W := by unfold ownAt World.cell?; rw [World.putObj_heap_other hlb]
  refine ⟨by rw [hs]; exact Nat.le_refl _, fun lo hlo h => ⟨by rw [hown]; exact h, fun k hk hx hk2 => World.putObj_heap_other ?_⟩⟩
  rintro rfl
  rcases hk2 with q | ⟨o2, q, c⟩
  · omega
  · rw [ho] at q
    cases q
    rw [hc] at c
    cases c
/-- A round that writes nothing that lay before but X's blocks. -/
theorem KeepO.of_same (hs : W.heap.size ≤ W'.heap.size) (h : ∀ k, k < W.heap.size → ¬ X k → W'.heap[k]? = W.heap[k]?) (ho : ownAt l W' = ownAt l W) : KeepO l X B W W' :=
  ⟨hs, fun lo hlo h1 => ⟨by rw [ho]; exact h1, fun k hk hx _ => h k (by omega) hx⟩⟩
end
section
variable {p : Nat} {X R : Nat → Prop} {D : Pl}
theorem each_in (p : Nat) (n : Nat) (w : World) :
    CallsIn Fence.wide n Try.prog 53 #[.pointer (some ⟨p, 0, none⟩)] w fun e w' => e = .returned (.func (.func 76) #[] #[.pointer (some ⟨w.heap.size, 0, none⟩)]) ∧ w' = w.alloc (.cells #[.pointer (some ⟨p, 0, none⟩)] 31) := by
  refine callsIn_of_wp Try.func53 rfl trivial ?_ rfl
  simp only [Try.ntmps53, List.size_toArray, List.length_cons, List.length_nil, Nat.reduceAdd, Nat.reduceSub, Array.replicate_succ, Array.replicate_zero, List.push_toArray, List.append_toArray, List.nil_append, List.cons_append]
  gi_wp2
  go_ret
  exact ⟨rfl, rfl⟩
/-- An element: a task's number. -/
def ElP (D : Pl) (pre : List Int) (x : Int) (_ : World) : Prop := D.ids[pre.length]? = some x ∧ pre = D.ids.take pre.length
set_option maxRecDepth 100000 in
set_option maxHeartbeats 4000000 in
theorem each1_in {mb : Nat} {wv : Value} {F : Int → Option Value} {ks : List Int} {Bk : Int → Nat} {TV BV AV : Int → Value} (n : Nat) (hn : 1 ≤ n) (y Bb l B : Nat) (Z : Nat → Prop) (J Jx : List Int → World → Prop) (W : World) (h : PX W p mb wv F ks Bk TV BV AV X R D)
    (hJ : ∀ pre A C, J pre A → Below A.heap.size A C → J pre C)
    (hY : ∀ pre x W1, J pre W1 → ElP D pre x W1 → YieldAt Fence.wide (n - 1) Try.prog y #[.int .i64 x, .pointer (some ⟨Bk x, 0, none⟩)] W1 fun e W' =>
      (e = .returned (.bool true) ∧ J (pre ++ [x]) W' ∧ KeepO l Z B W1 W') ∨ (e = .returned (.bool false) ∧ Jx (pre ++ [x]) W'))
    (hb : W.cell? ⟨Bb, 0, none⟩ = some (.pointer (some ⟨p, 0, none⟩))) (hbZ : ¬ Z Bb) (hbB : Bb < B) (hl : l < B) (hBW : B ≤ W.heap.size) (hXZ : ∀ b, X b ∨ R b → ¬ Z b ∧ b < B) (hZ : ∀ b, Z b → b < B) (ho : ownAt l W = none) (h0 : J [] W) :
    CallsIn Fence.wide n Try.prog 76 #[.func (.yield y) #[] #[], .pointer (some ⟨Bb, 0, none⟩)] W fun e W' => (∃ v, e = .returned v) ∧ ((∃ xs, xs = D.ids ∧ J xs W') ∨ ∃ pre, Jx pre W') := by
  refine callsIn_of_wp Try.func76 rfl trivial ?_ rfl
  simp only [Try.ntmps76, List.size_toArray, List.length_cons, List.length_nil, Nat.reduceAdd, Nat.reduceSub, Array.replicate_succ, Array.replicate_zero, List.push_toArray, List.append_toArray, List.nil_append, List.cons_append]
  have c3 := h.c3
  have HSO := Lib.hid (sorted_any h.map h.count h.ok.ord h.ok.idr h.ok.many)
  have HH := Lib.hid h
  clear h
  gi_wp2_with (first
    | (refine ⟨trivial, ?_⟩; gi_at_call 78; refine (callsIn_wide.2 (keys_any (some mb) _)).mono ?_; rintro e w5 ⟨rfl, rfl⟩)
    | (refine ⟨trivial, ?_⟩; gi_at_call 77; refine (callsIn_wide.2 HSO.out).mono ?_; rintro e w6 ⟨v, rfl, O6, B6⟩; obtain ⟨a6, k6, rfl⟩ := own_isSlice O6))
  obtain ⟨nn, hnn⟩ : ∃ m, D.ids.length = m := ⟨_, rfl⟩
  have hnm := HH.out.ok.many
  have HG : ∀ i x, D.ids[i]? = some x → ∃ g, a6 = some ⟨g, 0, none⟩ ∧ W.heap.size ≤ g ∧ g < w6.heap.size ∧ nn ≤ k6 ∧ w6.cell? ⟨g, i, none⟩ = some (.int .i64 x) ∧ ∃ o : Obj, w6.heap[g]? = some o ∧ o.isCells = true := fun i x hx => by
    have hi := (List.getElem?_eq_some_iff.1 hx).1
    rcases O6.2 with ⟨e, h0⟩ | ⟨g, cap, cur, e, hge, hg, hc, _⟩
    · omega
    · injection e with e1 e2 e3
      subst e1 e3
      have hcell := O6.cells (g := g) rfl i (.int .i64 x) (by rw [List.getElem?_map, hx]; rfl)
      rw [show ((⟨g, 0, none⟩ : Addr).add i) = ⟨g, i, none⟩ from by unfold Addr.add; split <;> simp_all] at hcell
      exact ⟨g, rfl, hge, (Array.getElem?_eq_some_iff.1 hg).1, by omega, hcell, _, hg, rfl⟩
  have ho6 : ownAt l w6 = none := by
    rw [← ho]
    unfold ownAt World.cell?
    rw [B6.block l (by omega)]
  have hb6 : w6.cell? ⟨Bb, 0, none⟩ = some (.pointer (some ⟨p, 0, none⟩)) := (B6.cell (p := ⟨Bb, 0, none⟩) (World.block_lt_of_cell? _ _ hb)).trans hb
  have HH6 := Lib.hid (HH.out.later B6)
  have hJ6 := hJ [] W w6 h0 B6
  have hsz6 := B6.size
  have HG := Lib.hid HG
  have HN := Lib.hid hnn
  rw [hnn]
  have HNM := Lib.hid hnm
  clear hJ O6 h0 HSO HH c3 hnn hnm hb ho
  gi_loopw [12] (fun ev wr => ∃ i : Nat, ev = .int .i64 (i : Int) ∧ i ≤ nn ∧ J (D.ids.take i) wr ∧ KeepO l Z B w6 wr) (fun ev _ => nn - (intOf ev).toNat)
  case atStart => exact ⟨0, rfl, Nat.zero_le _, hJ6, KeepO.refl _ _ _ _⟩
  case round =>
    obtain ⟨i, rfl, hi, hJr, hK⟩ := hrel
    have hnl := HNM.out
    rw [HN.out] at hnl
    by_cases hin : i < nn
    · obtain ⟨x, hx⟩ : ∃ x, D.ids[i]? = some x := ⟨_, List.getElem?_eq_getElem (by rw [HN.out]; exact hin)⟩
      obtain ⟨g, rfl, hge, hgl, hk6, hgc, hgo⟩ := HG.out i x hx
      have hS := (hK.same w6.heap.size (Nat.le_refl _) (fun k q => by rw [ho6] at q; cases q)).2
      have hgs := hS g hgl (fun q => by have := hZ g q; omega) (.inr hgo)
      have hcx : wr.cell? ⟨g, i, none⟩ = some (.int .i64 x) := by
        rw [← hgc]
        unfold World.cell?
        rw [hgs]
      have hbx : wr.cell? ⟨Bb, 0, none⟩ = some (.pointer (some ⟨p, 0, none⟩)) := by
        rw [← hb6]
        unfold World.cell?
        rw [hS Bb (by omega) hbZ (.inl hbB)]
      have hP : PX wr p mb wv F ks Bk TV BV AV X R D := HH6.out.kept hK.size
        (fun b hb => hS b (HH6.out.xl b hb) (hXZ b (.inl hb)).1 (.inl (hXZ b (.inl hb)).2))
        (fun b hb => hS b (HH6.out.rl b hb) (hXZ b (.inr hb)).1 (.inl (hXZ b (.inr hb)).2))
      have c3 := hP.c3
      obtain ⟨e, he⟩ := (hP.ok.mem x).1 (List.mem_of_getElem? hx)
      have lk := hP.look x false wr rfl
      rw [(hP.en x e he).1] at lk
      change (Instr.lookup _ _ _ false).run _ _ = .ok (.pointer (some ⟨Bk x, 0, none⟩)) _ at lk
      have hlt : (D.ids.take i).length = i := by rw [List.length_take, HN.out]; omega
      obtain ⟨fn, tmps, assign, bdy, hy, hR⟩ := hY (D.ids.take i) x wr hJr ⟨by rw [hlt]; exact hx, by rw [hlt]⟩
      have hin2 : (i : Int) < (nn : Int) := by omega
      have hkc : (i : Int) < (k6 : Int) := by omega
      have HT := Lib.hid (show D.ids.take i ++ [x] = D.ids.take (i + 1) by rw [List.take_add_one, hx]; rfl)
      have HK := Lib.hid hK
      have HR := Lib.hid hR
      clear hS hP he hgs hgo hx hbZ hXZ hZ hlt hgc hgl hge hK hR hY hJr
      gi_wp2
      all_goals
        refine HR.out.mono ?_
        rintro e W3 (⟨rfl, hJ3, hk3⟩ | ⟨rfl, hJx3⟩)
        · gi_wp2
          go_roundw
          case rel =>
            rw [HT.out] at hJ3
            exact ⟨i + 1, by go_num, by omega, hJ3, HK.out.trans hk3⟩
          case measure => simp [intOf]; omega
        · gi_wp2
          refine bodyPost_ret (results_none rfl _ _ _) rfl ?_
          exact ⟨⟨_, rfl⟩, .inr ⟨_, hJx3⟩⟩
    · have hin2 : ¬ (i : Int) < (nn : Int) := by omega
      have hie : D.ids.take i = D.ids := List.take_of_length_le (by rw [HN.out]; omega)
      rw [hie] at hJr
      clear hin hie
      gi_wp2
      refine bodyPost_end (results_none rfl _ _ _) rfl ?_
      exact ⟨⟨_, rfl⟩, .inl hJr⟩
/-- The iterator hands on all tasks. -/
theorem each_stops {mb : Nat} {wv : Value} {F : Int → Option Value} {ks : List Int} {Bk : Int → Nat} {TV BV AV : Int → Value} (n : Nat) (hn : 1 ≤ n) (Bb l B : Nat) (Z : Nat → Prop) (w : World) (h : PX w p mb wv F ks Bk TV BV AV X R D)
    (hb : w.cell? ⟨Bb, 0, none⟩ = some (.pointer (some ⟨p, 0, none⟩))) (hbZ : ¬ Z Bb) (hbB : Bb < B) (hl : l < B) (hBW : B ≤ w.heap.size) (hXZ : ∀ b, X b ∨ R b → ¬ Z b ∧ b < B) (hZ : ∀ b, Z b → b < B) (ho : ownAt l w = none) :
    SeqE Fence.wide n Try.prog 76 #[.pointer (some ⟨Bb, 0, none⟩)] (fun x : Int => #[.int .i64 x, .pointer (some ⟨Bk x, 0, none⟩)]) (ElP D) (KeepO l Z B) (fun xs => xs = D.ids) w :=
  fun y J Jx W hW hJ _ hY h0 =>
    each1_in n hn y Bb l B Z J Jx W (h.later hW) (fun pre A C hp hAC => hJ pre A C none hp ⟨hAC.os, hAC.tape, hAC.output, hAC.size, fun k hk _ => hAC.block k hk⟩ (fun r e => by cases e)) hY
      ((hW.cell (p := ⟨Bb, 0, none⟩) (World.block_lt_of_cell? _ _ hb)).trans hb) hbZ hbB hl (Nat.le_trans hBW hW.size) hXZ hZ (by
        rw [← ho]
        unfold ownAt World.cell?
        rw [hW.block l (by omega)]) h0
end
end Go.Proofs.Ytfdacckkdjpjhaa
