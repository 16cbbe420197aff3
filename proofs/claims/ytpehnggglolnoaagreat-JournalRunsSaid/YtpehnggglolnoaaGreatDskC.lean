/- Package disk: put. -/
import Derived.Test.YtpehnggglolnoaaGreatDskB
import Derived.StillTailTactics
import Derived.Deep.Cut
import Derived.Deep.CutRange
namespace Go.Proofs.YtpehnggglolnoaaGreat
open Go.RowKit

theorem Tryz.infoFile : (Tryz.prog.info? 65).map (fun i => (i.zero, i.size, i.bytes)) = some (some (.agg #[.slice none 0 0, .int .i64 0]), 2, 32) := by kernel_rfl
theorem zero_file (w : World) : (zeroValue 65).run Tryz.prog w = .ok (.agg #[.slice none 0 0, .int .i64 0]) w := by
  obtain ⟨i, hi, hz, _, _⟩ := info_parts Tryz.infoFile
  unfold zeroValue
  rw [Sem.run_bind, run_typeInfo w hi, Result.andThen_ok, hz]
  rfl
theorem Tryz.underlyingMapF : Tryz.prog.underlying 60 = some (.map 3 65) := by kernel_rfl
theorem Tryz.field0 (a : Option Addr) (n c : Nat) (d : Int) : ∀ w : World, (Instr.field 65 (.agg #[.slice a n c, .int .i64 d]) 0).run Tryz.prog w = .ok (.slice a n c) w := fun _ => by kernel_rfl
theorem DiskX.lookup {ex : Int → Prop} {w : World} {p mb : Nat} {F : Int → Option Value} {ks : List Int} {X : Nat → Prop} {D : Dk} (h : DiskX ex w p mb F ks X D) (k : Int) :
    ∃ a c, (F k).getD (.agg #[.slice none 0 0, .int .i64 0]) = .agg #[.slice a (D.fs k).1.length c, .int .i64 ((D.fs k).2 : Int)] ∧ ∀ W : World, W.heap = w.heap → (Instr.lookup 60 (.map (some mb)) (.int .i64 k) false).run Tryz.prog W = .ok (.agg #[.slice a (D.fs k).1.length c, .int .i64 ((D.fs k).2 : Int)]) W := by
  obtain ⟨a, c, e⟩ := h.look k
  refine ⟨a, c, e, fun W hW => ?_⟩
  have hm : MapF W mb F ks := h.map.kept (by rw [hW])
  have := hm.lookup (P := Tryz.prog) (t := 60) (K := 3) (e := 65) Tryz.underlyingMapF (by kernel_rfl) (zero_file W) k false
  rw [this, e]
  rfl
/-- Beside the disk's block and its map's nothing turned. -/
structure QStep (p mb : Nat) (w w' : World) : Prop where
  os : w'.os = w.os
  tape : w'.tape = w.tape
  output : w'.output = w.output
  size : w.heap.size ≤ w'.heap.size
  block : ∀ k, k < w.heap.size → k ≠ p → k ≠ mb → w'.heap[k]? = w.heap[k]?
theorem DiskX.putted {k : Int} {a : Option Addr} {c d : Nat} {b : List UInt8} {w w' : World} {p mb : Nat} {F F' : Int → Option Value} {ks ks' : List Int} {X : Nat → Prop} {D : Dk} (h : DiskX (fun j => j = k) w p mb F ks X D) (hk0 : 0 ≤ k) (hk1 : k < 64)
    (hv : w.ownsRow 0 5 1 (.slice a b.length c) b.length (b.map vB)) (hvb : ∀ x, (Value.slice a b.length c).ownBlock = some x → x ≠ p ∧ x ≠ mb ∧ ∀ j u e, j ≠ k → F j = some (.agg #[u, e]) → u.ownBlock ≠ some x)
    (hd : d ≤ b.length) (hroom : ((D.put k b d).used : Int) ≤ D.room) (hb : w'.heap[p]? = some (dkO (D.put k b d) mb)) (hm : MapF w' mb F' ks')
    (hF : ∀ x, F' x = if x = k then (if b = [] then none else some (.agg #[.slice a b.length c, .int .i64 (d : Int)])) else F x) (hs : QStep p mb w w') :
    DiskAt w' p mb F' ks' (fun x => X x ∨ (Value.slice a b.length c).ownBlock = some x) (D.put k b d) := by
  have hself : (D.put k b d).fs k = (b, if b = [] then 0 else d) := by simp [Dk.put]
  have hother : ∀ j, j ≠ k → (D.put k b d).fs j = D.fs j := fun j hj => by simp [Dk.put, hj]
  have hv2 : w'.ownsRow 0 5 1 (.slice a b.length c) b.length (b.map vB) := own_same hv (fun x hx => hs.block x (hv.lt x hx).2 (hvb x hx).1 (hvb x hx).2.1)
  refine ⟨hb, hm, h.pm, .inl h.xp, .inl h.xm, fun j hj => ?_, fun j hj => ?_, fun j v e _ hj => ?_, fun i j u v e f x _ _ hij hi hj hu hv3 => ?_, fun j => ?_, h.room, hroom, h.left, fun x hx => ?_⟩
  · by_cases hjk : j = k
    · subst hjk
      rw [hself] at hj ⊢
      simp only at hj
      rw [hF, if_pos rfl, if_pos hj, if_pos hj]
      exact ⟨rfl, rfl⟩
    · rw [hother j hjk] at hj ⊢
      rw [hF, if_neg hjk]
      exact h.emp j hj
  · by_cases hjk : j = k
    · subst hjk
      rw [hself] at hj ⊢
      simp only at hj
      rw [hF, if_pos rfl, if_neg hj, if_neg hj]
      exact ⟨hk0, hk1, a, c, rfl⟩
    · rw [hother j hjk] at hj ⊢
      rw [hF, if_neg hjk]
      exact h.ful j hj
  · rw [hF] at hj
    by_cases hjk : j = k
    · subst hjk
      rw [if_pos rfl] at hj
      by_cases hbe : b = []
      · rw [if_pos hbe] at hj; cases hj
      · rw [if_neg hbe] at hj
        cases hj
        rw [hself]
        exact ⟨hv2, fun x hx => ⟨.inr hx, (hvb x hx).1, (hvb x hx).2.1⟩⟩
    · rw [if_neg hjk] at hj
      obtain ⟨h1, h2⟩ := h.row j v e hjk hj
      rw [hother j hjk]
      exact ⟨own_same h1 (fun x hx => hs.block x (h1.lt x hx).2 (h2 x hx).2.1 (h2 x hx).2.2), fun x hx => ⟨.inl (h2 x hx).1, (h2 x hx).2⟩⟩
  · rw [hF] at hi hj
    by_cases hik : i = k
    · subst hik
      rw [if_pos rfl] at hi
      rw [if_neg (fun e => hij e.symm)] at hj
      by_cases hbe : b = []
      · rw [if_pos hbe] at hi; cases hi
      · rw [if_neg hbe] at hi
        cases hi
        exact (hvb x hu).2.2 j v f (fun e => hij e.symm) hj hv3
    · rw [if_neg hik] at hi
      by_cases hjk : j = k
      · subst hjk
        rw [if_pos rfl] at hj
        by_cases hbe : b = []
        · rw [if_pos hbe] at hj; cases hj
        · rw [if_neg hbe] at hj
          cases hj
          exact (hvb x hv3).2.2 i u e hik hi hu
      · rw [if_neg hjk] at hj
        exact h.sep i j u v e f x hik hjk hij hi hj hu hv3
  · by_cases hjk : j = k
    · subst hjk
      rw [hself]
      show (if b = [] then 0 else d) ≤ b.length
      split <;> omega
    · rw [hother j hjk]; exact h.dur j
  · rcases hx with hx | hx
    · exact Nat.lt_of_lt_of_le (h.xl x hx) hs.size
    · exact Nat.lt_of_lt_of_le (hv.lt x hx).2 hs.size
set_option maxRecDepth 10000 in
set_option maxHeartbeats 600000 in
theorem put_any (k : Int) (a : Option Addr) (c d : Nat) (b : List UInt8) (w : World) {p mb : Nat} {F : Int → Option Value} {ks : List Int} {X : Nat → Prop} {D : Dk} (h : DiskX (fun j => j = k) w p mb F ks X D) (hk0 : 0 ≤ k) (hk1 : k < 64)
    (hv : w.ownsRow 0 5 1 (.slice a b.length c) b.length (b.map vB)) (hvb : ∀ x, (Value.slice a b.length c).ownBlock = some x → x ≠ p ∧ x ≠ mb ∧ ∀ j u e, j ≠ k → F j = some (.agg #[u, e]) → u.ownBlock ≠ some x)
    (hd : d ≤ b.length) (hroom : ((D.put k b d).used : Int) ≤ D.room) :
    Calls Tryz.prog 30 #[.pointer (some ⟨p, 0, none⟩), .int .i64 k, .agg #[.slice a b.length c, .int .i64 (d : Int)]] w fun e w' => e = .returned (.tuple #[]) ∧
      (∃ F' ks', DiskAt w' p mb F' ks' (fun x => X x ∨ (Value.slice a b.length c).ownBlock = some x) (D.put k b d)) ∧ QStep p mb w w' := by
  have hu := D.used_put k b d hk0 hk1
  have hroom2 := hroom
  obtain ⟨U, hU⟩ : ∃ U, (D.put k b d).used = U := ⟨_, rfl⟩
  obtain ⟨V, hV⟩ : ∃ V, D.used = V := ⟨_, rfl⟩
  obtain ⟨old, hold⟩ : ∃ n, (D.fs k).1.length = n := ⟨_, rfl⟩
  have hrm := h.room
  have hus := h.used
  rw [hU, hV, hold] at hu
  rw [hU] at hroom
  rw [hV] at hus
  obtain ⟨a2, c2, hlook, hlk⟩ := h.lookup k
  rw [hold] at hlk hlook
  have HH := Lib.hid h
  have hrm2 := hroom2
  have HU := Lib.hid hU
  have HV := Lib.hid hV
  have HHK := Lib.hid hlk
  have hold2 : old ≤ V := by have := D.le_used k hk0 hk1; omega
  have hbl2 : b.length ≤ 16777216 := by omega
  have hw1 : wrap64 ((b.length : Int) - (old : Int)) = (b.length : Int) - (old : Int) := by unfold wrap64; omega
  have hw2 : wrap64 ((V : Int) + ((b.length : Int) - (old : Int))) = (U : Int) := by unfold wrap64; omega
  have HRM := Lib.hid hrm2
  clear h hU hV hold hrm hus hroom hroom2 hrm2 hu hlk
  go_enter Tryz.func30, Tryz.ntmps30
  go_upto_region 1 with fail
  have BA := (Below.refl w.heap.size w).alloc (Nat.le_refl _) (.cells #[.slice a b.length c, .int .i64 (d : Int)] 65)
  have hf := World.alloc_heap_new w (.cells #[.slice a b.length c, .int .i64 (d : Int)] 65)
  have h1 := HH.out.later BA
  have hfp : w.heap.size ≠ p := fun e => by have := HH.out.lt; omega
  have hfm : w.heap.size ≠ mb := fun e => by have := HH.out.map.lt; omega
  have hlk := fun (W : World) (hW : W.heap = (w.alloc (.cells #[.slice a b.length c, .int .i64 (d : Int)] 65)).heap) => (h1.lookup k)
  clear hlk
  generalize hgw : w.alloc (.cells #[.slice a b.length c, .int .i64 (d : Int)] 65) = w1 at BA hf h1 ⊢
  have hlk : ∀ W : World, W.heap = w1.heap → (Instr.lookup 60 (.map (some mb)) (.int .i64 k) false).run Tryz.prog W = .ok (.agg #[.slice a2 old c2, .int .i64 ((D.fs k).2 : Int)]) W := fun W hW => by
    have hm : MapF W mb F ks := h1.map.kept (by rw [hW])
    have := hm.lookup (P := Tryz.prog) (t := 60) (K := 3) (e := 65) Tryz.underlyingMapF (by kernel_rfl) (zero_file W) k false
    rw [this, hlook]
    rfl
  generalize w.heap.size = fb at hf hfp hfm ⊢
  have f0 : w1.cell? ⟨fb, 0, none⟩ = some (.slice a b.length c) := by simp [World.cell?, hf]
  have f1 : w1.cell? ⟨fb, 1, none⟩ = some (.int .i64 (d : Int)) := by simp [World.cell?, hf]
  have c1 := h1.c1
  rw [HV.out] at c1
  have c2' := h1.c2
  have hlk1 := hlk w1.drew rfl
  have hfd := Tryz.field0 a2 old c2 ((D.fs k).2 : Int)
  clear hgw
  go_still_tail 19, (by kernel_rfl)
  change wpList _ _ _ _ _ w1.drew
  have h2 := h1.later (Below.refl _ _).drew
  have hf2 : w1.drew.heap[fb]? = some (.cells #[.slice a b.length c, .int .i64 (d : Int)] 65 (0, 0)) := hf
  have B2 := BA.drew
  generalize w1.drew = w2 at h2 hf2 B2 ⊢
  clear h1 hf BA hlk hlk1 f0 f1 c1 c2'
  have fz := fun j => h2.fz j
  have c1 := h2.c1
  rw [HV.out] at c1
  go_upto_region 2 with fail
  rw [hw1, hw2]
  have hb3 : (w2.setCell ⟨p, 1, none⟩ (.int .i64 (U : Int))).heap[p]? = some (dkO (D.put k b d) mb) := by
    have hb := h2.blk
    unfold dkO at hb
    have := setBlk hb 1 (.int .i64 (U : Int))
    simp only [List.setIfInBounds_toArray, List.set_cons_succ, List.set_cons_zero] at this
    unfold dkO
    rw [HU.out]
    exact this
  have hm3 : MapF (w2.setCell ⟨p, 1, none⟩ (.int .i64 (U : Int))) mb F ks := h2.map.kept (Below.heap_setCell _ _ _ _ (fun e => h2.pm e.symm))
  have hf3 : (w2.setCell ⟨p, 1, none⟩ (.int .i64 (U : Int))).heap[fb]? = some (.cells #[.slice a b.length c, .int .i64 (d : Int)] 65 (0, 0)) := (Below.heap_setCell _ _ _ _ hfp).trans hf2
  have hq3 : QStep p mb w (w2.setCell ⟨p, 1, none⟩ (.int .i64 (U : Int))) := ⟨B2.os, B2.tape, B2.output, by rw [World.size_setCell]; exact B2.size, fun x hx hxp _ => (Below.heap_setCell _ _ _ _ hxp).trans (B2.block x hx)⟩
  generalize w2.setCell ⟨p, 1, none⟩ (.int .i64 (U : Int)) = w3 at hb3 hm3 hf3 hq3 ⊢
  clear h2 hf2 B2 fz c1
  have hb3' := hb3
  unfold dkO at hb3'
  have c2 : w3.cell? ⟨p, 2, none⟩ = some (.map (some mb)) := by simp [World.cell?, hb3']
  have f0 : w3.cell? ⟨fb, 0, none⟩ = some (.slice a b.length c) := by simp [World.cell?, hf3]
  have f1 : w3.cell? ⟨fb, 1, none⟩ = some (.int .i64 (d : Int)) := by simp [World.cell?, hf3]
  clear hb3'
  by_cases hbe : b = []
  · subst hbe
    obtain ⟨w4, hrun, hm4, g4, s4⟩ := hm3.drop (P := Tryz.prog) (t := 60) (K := 3) (e := 65) Tryz.underlyingMapF (by kernel_rfl) 0 k
    go_wp2_with fail
    refine bodyPost_ret (results_none rfl _ _ _) rfl ?_
    clear hrun
    have Q4 : QStep p mb w w4 := ⟨g4.os.trans hq3.os, g4.tape.trans hq3.tape, g4.output.trans hq3.output, Nat.le_trans hq3.size g4.size, fun x hx hxp hxm => (g4.block x (Nat.lt_of_lt_of_le hx hq3.size) (fun e => hxm (Option.some.inj e))).trans (hq3.block x hx hxp hxm)⟩
    have hb4 := (g4.block p (Array.getElem?_eq_some_iff.1 hb3).1 (fun e => HH.out.pm (Option.some.inj e))).trans hb3
    exact ⟨rfl, ⟨_, _, HH.out.putted hk0 hk1 hv hvb hd HRM.out hb4 hm4 (fun x => by rw [if_pos rfl]) Q4⟩, Q4⟩
  · have hbp := List.length_pos_iff.2 hbe
    have hbl0 : ((b.length : Int) == 0) = false := by
      have : ¬ (b.length : Int) = 0 := by omega
      simpa using this
    have c2d : w3.drew.cell? ⟨p, 2, none⟩ = some (.map (some mb)) := c2
    have f0d : w3.drew.cell? ⟨fb, 0, none⟩ = some (.slice a b.length c) := f0
    have f1d : w3.drew.cell? ⟨fb, 1, none⟩ = some (.int .i64 (d : Int)) := f1
    have HBE := Lib.hid hbe
    clear hbe
    go_wp2_with fail
    go_still_tail 6, (by kernel_rfl)
    change wpList _ _ _ _ _ w3.drew
    refine wpList_update_F (v := .agg #[.slice a b.length c, .int .i64 (d : Int)]) rfl _ _ _ rfl Tryz.underlyingMapF (by kernel_rfl) rfl rfl rfl (hm3.kept (w' := w3.drew) rfl) ?_
    intro w4 hm4 g4 s4
    have hbe := HBE.out
    have Q4 : QStep p mb w w4 := ⟨g4.os.trans hq3.os, g4.tape.trans hq3.tape, g4.output.trans hq3.output, Nat.le_trans hq3.size g4.size, fun x hx hxp hxm => (g4.block x (Nat.lt_of_lt_of_le hx hq3.size) (fun e => hxm (Option.some.inj e))).trans (hq3.block x hx hxp hxm)⟩
    have hb4 := (g4.block p (Array.getElem?_eq_some_iff.1 hb3).1 (fun e => HH.out.pm (Option.some.inj e))).trans hb3
    have D4 := HH.out.putted hk0 hk1 hv hvb hd HRM.out hb4 hm4 (fun x => by rw [if_neg hbe]) Q4
    clear hbe
    go_wp2_with fail
    go_end0
    exact ⟨rfl, ⟨_, _, D4⟩, Q4⟩
end Go.Proofs.YtpehnggglolnoaaGreat
