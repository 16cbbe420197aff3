/- Several texts in one: DskC DskD. -/
import Derived.Test.YtpehnggglolnoaaDskB
import Derived.StillTailTactics
import Derived.Deep.Cut
import Derived.Deep.CutRange
/- Package disk: put. -/
namespace Go.Proofs.Ytpehnggglolnoaa
open Go.RowKit

theorem Try.infoFile : (Try.prog.info? 105).map (fun i => (i.zero, i.size, i.bytes)) = some (some (.agg #[.slice none 0 0, .int .i64 0]), 2, 32) := by kernel_rfl
theorem zero_file (w : World) : (zeroValue 105).run Try.prog w = .ok (.agg #[.slice none 0 0, .int .i64 0]) w := by
  obtain ⟨i, hi, hz, _, _⟩ := info_parts Try.infoFile
  unfold zeroValue
  rw [Sem.run_bind, run_typeInfo w hi, Result.andThen_ok, hz]
  rfl
theorem Try.underlyingMapF : Try.prog.underlying 94 = some (.map 3 105) := by kernel_rfl
theorem Try.field0 (a : Option Addr) (n c : Nat) (d : Int) : ∀ w : World, (Instr.field 105 (.agg #[.slice a n c, .int .i64 d]) 0).run Try.prog w = .ok (.slice a n c) w := fun _ => by kernel_rfl
theorem DiskX.lookup {ex : Int → Prop} {w : World} {p mb : Nat} {F : Int → Option Value} {ks : List Int} {X : Nat → Prop} {D : Dk} (h : DiskX ex w p mb F ks X D) (k : Int) :
    ∃ a c, (F k).getD (.agg #[.slice none 0 0, .int .i64 0]) = .agg #[.slice a (D.fs k).1.length c, .int .i64 ((D.fs k).2 : Int)] ∧ ∀ W : World, W.heap = w.heap → (Instr.lookup 94 (.map (some mb)) (.int .i64 k) false).run Try.prog W = .ok (.agg #[.slice a (D.fs k).1.length c, .int .i64 ((D.fs k).2 : Int)]) W := by
  obtain ⟨a, c, e⟩ := h.look k
  refine ⟨a, c, e, fun W hW => ?_⟩
  have hm : MapF W mb F ks := h.map.kept (by rw [hW])
  have := hm.lookup (P := Try.prog) (t := 94) (K := 3) (e := 105) Try.underlyingMapF (by kernel_rfl) (zero_file W) k false
  rw [this, e]
  rfl
/-- Beside the disk's block and its map's nothing turned. -/
structure QStep (p mb : Nat) (w w' : World) : Prop where
  os : w'.os = w.os
  tape : w'.tape = w.tape
  output : w'.output = w.output
  size : w.heap.size ≤ w'.heap.size
  block : ∀ k, k < w.heap.size → k ≠ p → k ≠ mb → w'.heap[k]? = w.heap[k]?
theorem DiskX.putted {k : Int} {a : Option Addr} {c d : Nat} {b : List UInt8} {w w' : World} {p mb : Nat} {F F' : Int → Option Value} {ks ks' : List Int} {X : Nat → Prop} {D : Dk} (h : DiskX (fun j => j = k) w p mb F ks X D) (hk0 : 0 ≤ k) (hk1 : k < 64)
    (hv : w.ownsRow 0 5 1 (.slice a b.length c) b.length (b.map vB)) (hvb : ∀ x, (Value.slice a b.length c).ownBlock = some x → x ≠ p ∧ x ≠ mb ∧ ∀ j u e, j ≠ k → F j = some (.agg #[u, e]) → u.ownBlock ≠ some x)
    (hd : d ≤ b.length) (hroom : ((D.put k b d).used : Int) ≤ D.room) (hb : w'.heap[p]? = some (dkO (D.put k b d) mb)) (hm : MapF w' mb F' ks')
    (hF : ∀ x, F' x = if x = k then (if b = [] then none else some (.agg #[.slice a b.length c, .int .i64 (d : Int)])) else F x) (hs : QStep p mb w w') :
    DiskAt w' p mb F' ks' (fun x => X x ∨ (Value.slice a b.length c).ownBlock = some x) (D.put k b d) := by
  have hself : (D.put k b d).fs k = (b, if b = [] then 0 else d) := by simp [Dk.put]
  have hother : ∀ j, j ≠ k → (D.put k b d).fs j = D.fs j := fun j hj => by simp [Dk.put, hj]
  have hv2 : w'.ownsRow 0 5 1 (.slice a b.length c) b.length (b.map vB) := own_same hv (fun x hx => hs.block x (hv.lt x hx).2 (hvb x hx).1 (hvb x hx).2.1)
  refine ⟨hb, hm, h.pm, .inl h.xp, .inl h.xm, fun j hj => ?_, fun j hj => ?_, fun j v e _ hj => ?_, fun i j u v e f x _ _ hij hi hj hu hv3 => ?_, fun j => ?_, h.room, hroom, h.left, fun x hx => ?_⟩
  · by_cases hjk : j = k
    · subst hjk
      rw [hself] at hj ⊢
      simp only at hj
      rw [hF, if_pos rfl, if_pos hj, if_pos hj]
      exact ⟨rfl, rfl⟩
    · rw [hother j hjk] at hj ⊢
      rw [hF, if_neg hjk]
      exact h.emp j hj
  · by_cases hjk : j = k
    · subst hjk
      rw [hself] at hj ⊢
      simp only at hj
      rw [hF, if_pos rfl, if_neg hj, if_neg hj]
      exact ⟨hk0, hk1, a, c, rfl⟩
    · rw [hother j hjk] at hj ⊢
      rw [hF, if_neg hjk]
      exact h.ful j hj
  · rw [hF] at hj
    by_cases hjk : j = k
    · subst hjk
      rw [if_pos rfl] at hj
      by_cases hbe : b = []
      · rw [if_pos hbe] at hj; cases hj
      · rw [if_neg hbe] at hj
        cases hj
        rw [hself]
        exact ⟨hv2, fun x hx => ⟨.inr hx, (hvb x hx).1, (hvb x hx).2.1⟩⟩
    · rw [if_neg hjk] at hj
      obtain ⟨h1, h2⟩ := h.row j v e hjk hj
      rw [hother j hjk]
      exact ⟨own_same h1 (fun x hx => hs.block x (h1.lt x hx).2 (h2 x hx).2.1 (h2 x hx).2.2), fun x hx => ⟨.inl (h2 x hx).1, (h2 x hx).2⟩⟩
  · rw [hF] at hi hj
    by_cases hik : i = k
    · subst hik
      rw [if_pos rfl] at hi
      rw [if_neg (fun e => hij e.symm)] at hj
      by_cases hbe : b = []
      · rw [if_pos hbe] at hi; cases hi
      · rw [if_neg hbe] at hi
        cases hi
        exact (hvb x hu).2.2 j v f (fun e => hij e.symm) hj hv3
    · rw [if_neg hik] at hi
      by_cases hjk : j = k
      · subst hjk
        rw [if_pos rfl] at hj
        by_cases hbe : b = []
        · rw [if_pos hbe] at hj; cases hj
        · rw [if_neg hbe] at hj
          cases hj
          exact (hvb x hv3).2.2 i u e hik hi hu
      · rw [if_neg hjk] at hj
        exact h.sep i j u v e f x hik hjk hij hi hj hu hv3
  · by_cases hjk : j = k
    · subst hjk
      rw [hself]
      show (if b = [] then 0 else d) ≤ b.length
      split <;> omega
    · rw [hother j hjk]; exact h.dur j
  · rcases hx with hx | hx
    · exact Nat.lt_of_lt_of_le (h.xl x hx) hs.size
    · exact Nat.lt_of_lt_of_le (hv.lt x hx).2 hs.size
set_option maxRecDepth 10000 in
set_option maxHeartbeats 600000 in
theorem put_any (k : Int) (a : Option Addr) (c d : Nat) (b : List UInt8) (w : World) {p mb : Nat} {F : Int → Option Value} {ks : List Int} {X : Nat → Prop} {D : Dk} (h : DiskX (fun j => j = k) w p mb F ks X D) (hk0 : 0 ≤ k) (hk1 : k < 64)
    (hv : w.ownsRow 0 5 1 (.slice a b.length c) b.length (b.map vB)) (hvb : ∀ x, (Value.slice a b.length c).ownBlock = some x → x ≠ p ∧ x ≠ mb ∧ ∀ j u e, j ≠ k → F j = some (.agg #[u, e]) → u.ownBlock ≠ some x)
    (hd : d ≤ b.length) (hroom : ((D.put k b d).used : Int) ≤ D.room) :
    Calls Try.prog 58 #[.pointer (some ⟨p, 0, none⟩), .int .i64 k, .agg #[.slice a b.length c, .int .i64 (d : Int)]] w fun e w' => e = .returned (.tuple #[]) ∧
      (∃ F' ks', DiskAt w' p mb F' ks' (fun x => X x ∨ (Value.slice a b.length c).ownBlock = some x) (D.put k b d)) ∧ QStep p mb w w' := by
  have hu := D.used_put k b d hk0 hk1
  have hroom2 := hroom
  obtain ⟨U, hU⟩ : ∃ U, (D.put k b d).used = U := ⟨_, rfl⟩
  obtain ⟨V, hV⟩ : ∃ V, D.used = V := ⟨_, rfl⟩
  obtain ⟨old, hold⟩ : ∃ n, (D.fs k).1.length = n := ⟨_, rfl⟩
  have hrm := h.room
  have hus := h.used
  rw [hU, hV, hold] at hu
  rw [hU] at hroom
  rw [hV] at hus
  obtain ⟨a2, c2, hlook, hlk⟩ := h.lookup k
  rw [hold] at hlk hlook
  have HH := Lib.hid h
  have hrm2 := hroom2
  have HU := Lib.hid hU
  have HV := Lib.hid hV
  have HHK := Lib.hid hlk
  have hold2 : old ≤ V := by have := D.le_used k hk0 hk1; omega
  have hbl2 : b.length ≤ 16777216 := by omega
  have hw1 : wrap64 ((b.length : Int) - (old : Int)) = (b.length : Int) - (old : Int) := by unfold wrap64; omega
  have hw2 : wrap64 ((V : Int) + ((b.length : Int) - (old : Int))) = (U : Int) := by unfold wrap64; omega
  have HRM := Lib.hid hrm2
  clear h hU hV hold hrm hus hroom hroom2 hrm2 hu hlk
  go_enter Try.func58, Try.ntmps58
  go_upto_region 1 with fail
  have BA := (Below.refl w.heap.size w).alloc (Nat.le_refl _) (.cells #[.slice a b.length c, .int .i64 (d : Int)] 105)
  have hf := World.alloc_heap_new w (.cells #[.slice a b.length c, .int .i64 (d : Int)] 105)
  have h1 := HH.out.later BA
  have hfp : w.heap.size ≠ p := fun e => by have := HH.out.lt; omega
  have hfm : w.heap.size ≠ mb := fun e => by have := HH.out.map.lt; omega
  have hlk := fun (W : World) (hW : W.heap = (w.alloc (.cells #[.slice a b.length c, .int .i64 (d : Int)] 105)).heap) => (h1.lookup k)
  clear hlk
  generalize hgw : w.alloc (.cells #[.slice a b.length c, .int .i64 (d : Int)] 105) = w1 at BA hf h1 ⊢
  have hlk : ∀ W : World, W.heap = w1.heap → (Instr.lookup 94 (.map (some mb)) (.int .i64 k) false).run Try.prog W = .ok (.agg #[.slice a2 old c2, .int .i64 ((D.fs k).2 : Int)]) W := fun W hW => by
    have hm : MapF W mb F ks := h1.map.kept (by rw [hW])
    have := hm.lookup (P := Try.prog) (t := 94) (K := 3) (e := 105) Try.underlyingMapF (by kernel_rfl) (zero_file W) k false
    rw [this, hlook]
    rfl
  generalize w.heap.size = fb at hf hfp hfm ⊢
  have f0 : w1.cell? ⟨fb, 0, none⟩ = some (.slice a b.length c) := by simp [World.cell?, hf]
  have f1 : w1.cell? ⟨fb, 1, none⟩ = some (.int .i64 (d : Int)) := by simp [World.cell?, hf]
  have c1 := h1.c1
  rw [HV.out] at c1
  have c2' := h1.c2
  have hlk1 := hlk w1.drew rfl
  have hfd := Try.field0 a2 old c2 ((D.fs k).2 : Int)
  clear hgw
  go_still_tail 19, (by kernel_rfl)
  change wpList _ _ _ _ _ w1.drew
  have h2 := h1.later (Below.refl _ _).drew
  have hf2 : w1.drew.heap[fb]? = some (.cells #[.slice a b.length c, .int .i64 (d : Int)] 105 (0, 0)) := hf
  have B2 := BA.drew
  generalize w1.drew = w2 at h2 hf2 B2 ⊢
  clear h1 hf BA hlk hlk1 f0 f1 c1 c2'
  have fz := fun j => h2.fz j
  have c1 := h2.c1
  rw [HV.out] at c1
  go_upto_region 2 with fail
  rw [hw1, hw2]
  have hb3 : (w2.setCell ⟨p, 1, none⟩ (.int .i64 (U : Int))).heap[p]? = some (dkO (D.put k b d) mb) := by
    have hb := h2.blk
    unfold dkO at hb
    have := setBlk hb 1 (.int .i64 (U : Int))
    simp only [List.setIfInBounds_toArray, List.set_cons_succ, List.set_cons_zero] at this
    unfold dkO
    rw [HU.out]
    exact this
  have hm3 : MapF (w2.setCell ⟨p, 1, none⟩ (.int .i64 (U : Int))) mb F ks := h2.map.kept (Below.heap_setCell _ _ _ _ (fun e => h2.pm e.symm))
  have hf3 : (w2.setCell ⟨p, 1, none⟩ (.int .i64 (U : Int))).heap[fb]? = some (.cells #[.slice a b.length c, .int .i64 (d : Int)] 105 (0, 0)) := (Below.heap_setCell _ _ _ _ hfp).trans hf2
  have hq3 : QStep p mb w (w2.setCell ⟨p, 1, none⟩ (.int .i64 (U : Int))) := ⟨B2.os, B2.tape, B2.output, by rw [World.size_setCell]; exact B2.size, fun x hx hxp _ => (Below.heap_setCell _ _ _ _ hxp).trans (B2.block x hx)⟩
  generalize w2.setCell ⟨p, 1, none⟩ (.int .i64 (U : Int)) = w3 at hb3 hm3 hf3 hq3 ⊢
  clear h2 hf2 B2 fz c1
  have hb3' := hb3
  unfold dkO at hb3'
  have c2 : w3.cell? ⟨p, 2, none⟩ = some (.map (some mb)) := by simp [World.cell?, hb3']
  have f0 : w3.cell? ⟨fb, 0, none⟩ = some (.slice a b.length c) := by simp [World.cell?, hf3]
  have f1 : w3.cell? ⟨fb, 1, none⟩ = some (.int .i64 (d : Int)) := by simp [World.cell?, hf3]
  clear hb3'
  by_cases hbe : b = []
  · subst hbe
    obtain ⟨w4, hrun, hm4, g4, s4⟩ := hm3.drop (P := Try.prog) (t := 94) (K := 3) (e := 105) Try.underlyingMapF (by kernel_rfl) 0 k
    go_wp2_with fail
    refine bodyPost_ret (results_none rfl _ _ _) rfl ?_
    clear hrun
    have Q4 : QStep p mb w w4 := ⟨g4.os.trans hq3.os, g4.tape.trans hq3.tape, g4.output.trans hq3.output, Nat.le_trans hq3.size g4.size, fun x hx hxp hxm => (g4.block x (Nat.lt_of_lt_of_le hx hq3.size) (fun e => hxm (Option.some.inj e))).trans (hq3.block x hx hxp hxm)⟩
    have hb4 := (g4.block p (Array.getElem?_eq_some_iff.1 hb3).1 (fun e => HH.out.pm (Option.some.inj e))).trans hb3
    exact ⟨rfl, ⟨_, _, HH.out.putted hk0 hk1 hv hvb hd HRM.out hb4 hm4 (fun x => by rw [if_pos rfl]) Q4⟩, Q4⟩
  · have hbp := List.length_pos_iff.2 hbe
    have hbl0 : ((b.length : Int) == 0) = false := by
      have : ¬ (b.length : Int) = 0 := by omega
      simpa using this
    have c2d : w3.drew.cell? ⟨p, 2, none⟩ = some (.map (some mb)) := c2
    have f0d : w3.drew.cell? ⟨fb, 0, none⟩ = some (.slice a b.length c) := f0
    have f1d : w3.drew.cell? ⟨fb, 1, none⟩ = some (.int .i64 (d : Int)) := f1
    have HBE := Lib.hid hbe
    clear hbe
    go_wp2_with fail
    go_still_tail 6, (by kernel_rfl)
    change wpList _ _ _ _ _ w3.drew
    refine wpList_update_F (v := .agg #[.slice a b.length c, .int .i64 (d : Int)]) rfl _ _ _ rfl Try.underlyingMapF (by kernel_rfl) rfl rfl rfl (hm3.kept (w' := w3.drew) rfl) ?_
    intro w4 hm4 g4 s4
    have hbe := HBE.out
    have Q4 : QStep p mb w w4 := ⟨g4.os.trans hq3.os, g4.tape.trans hq3.tape, g4.output.trans hq3.output, Nat.le_trans hq3.size g4.size, fun x hx hxp hxm => (g4.block x (Nat.lt_of_lt_of_le hx hq3.size) (fun e => hxm (Option.some.inj e))).trans (hq3.block x hx hxp hxm)⟩
    have hb4 := (g4.block p (Array.getElem?_eq_some_iff.1 hb3).1 (fun e => HH.out.pm (Option.some.inj e))).trans hb3
    have D4 := HH.out.putted hk0 hk1 hv hvb hd HRM.out hb4 hm4 (fun x => by rw [if_neg hbe]) Q4
    clear hbe
    go_wp2_with fail
    go_end0
    exact ⟨rfl, ⟨_, _, D4⟩, Q4⟩
end Go.Proofs.Ytpehnggglolnoaa

/- Package disk: Append. -/
namespace Go.Proofs.Ytpehnggglolnoaa
open Go.RowKit

section
variable {w w' : World} {p mb : Nat} {F : Int → Option Value} {ks : List Int} {X : Nat → Prop} {D : Dk}
/-- A row grows that is none of the other files'. -/
theorem DiskX.grow (h : DiskAt w p mb F ks X D) {k : Int} {row : Option Nat} (hg : w.grownBy w' row) (hr : ∀ b, row = some b → b ≠ p ∧ b ≠ mb ∧ ∀ j u e, j ≠ k → F j = some (.agg #[u, e]) → u.ownBlock ≠ some b) : DiskX (fun j => j = k) w' p mb F ks X D :=
  ⟨(hg.block p h.lt (fun e => (hr p e.symm).1 rfl)).trans h.blk, h.map.kept (hg.block mb h.map.lt (fun e => (hr mb e.symm).2.1 rfl)), h.pm, h.xp, h.xm, h.emp, h.ful,
    fun j v d hj hF => ⟨ownGrown0 (h.row j v d id hF).1 hg (fun b hb e => (hr b e).2.2 j v d hj hF hb), (h.row j v d id hF).2⟩, fun i j u v d e b _ _ => h.sep i j u v d e b id id, h.dur, h.room, h.used, h.left, fun b hX => Nat.lt_of_lt_of_le (h.xl b hX) hg.size⟩
/-- The row of a file, whether there is one or not. -/
theorem DiskX.old (h : DiskAt w p mb F ks X D) (k : Int) : ∃ a c, (F k).getD (.agg #[.slice none 0 0, .int .i64 0]) = .agg #[.slice a (D.fs k).1.length c, .int .i64 ((D.fs k).2 : Int)] ∧ w.ownsRow 0 5 1 (.slice a (D.fs k).1.length c) (D.fs k).1.length ((D.fs k).1.map vB) ∧
    ∀ b, (Value.slice a (D.fs k).1.length c).ownBlock = some b → X b ∧ b ≠ p ∧ b ≠ mb ∧ ∀ j u e, j ≠ k → F j = some (.agg #[u, e]) → u.ownBlock ≠ some b := by
  by_cases he : (D.fs k).1 = []
  · obtain ⟨h1, h2⟩ := h.emp k he
    rw [h1, he, h2]
    exact ⟨none, 0, rfl, World.ownsRow_nil _ _ _ _, (fun b hb => by cases hb)⟩
  · obtain ⟨_, _, a, c, hF⟩ := h.ful k he
    obtain ⟨h1, h2⟩ := h.row k _ _ id hF
    rw [hF]
    exact ⟨a, c, rfl, h1, fun b hb => ⟨(h2 b hb).1, (h2 b hb).2.1, (h2 b hb).2.2, fun j u e hj hFj => h.sep k j _ _ _ _ b id id (fun e => hj e.symm) hF hFj hb⟩⟩
theorem DiskX.look2 {ex : Int → Prop} (h : DiskX ex w p mb F ks X D) (k : Int) {a : Option Addr} {n c : Nat} {d : Int} (e : (F k).getD (.agg #[.slice none 0 0, .int .i64 0]) = .agg #[.slice a n c, .int .i64 d]) (W : World) (hW : W.heap = w.heap) :
    (Instr.lookup 94 (.map (some mb)) (.int .i64 k) false).run Try.prog W = .ok (.agg #[.slice a n c, .int .i64 d]) W := by
  have hm : MapF W mb F ks := h.map.kept (by rw [hW])
  have := hm.lookup (P := Try.prog) (t := 94) (K := 3) (e := 105) Try.underlyingMapF (by kernel_rfl) (zero_file W) k false
  rw [this, e]
  rfl
end
def Dk.append (D : Dk) (k : Int) (b : List UInt8) : Int × Dk :=
  if ¬ (0 ≤ k ∧ k < 64) then (1, D) else if D.off then (19, D) else if D.room - D.used < b.length then (18, D) else ((if D.failsB then 19 else 0), D.fails.put k ((D.fs k).1 ++ b) (D.fs k).2)
theorem fails_fs (D : Dk) : D.fails.fs = D.fs ∧ D.fails.room = D.room := by
  unfold Dk.fails
  split
  · split <;> exact ⟨rfl, rfl⟩
  · exact ⟨rfl, rfl⟩
set_option maxRecDepth 10000 in
set_option maxHeartbeats 1000000 in
theorem append_any (k : Int) (bv : Value) (b : List UInt8) (w : World) {p mb : Nat} {F : Int → Option Value} {ks : List Int} {X : Nat → Prop} {D : Dk} (h : DiskAt w p mb F ks X D) (hb : Rv w bv b.length (b.map vB)) (hbX : ∀ x, bv.ownBlock = some x → ¬ X x) (hbl : b.length ≤ 1000000000) :
    Calls Try.prog 44 #[.pointer (some ⟨p, 0, none⟩), .int .i64 k, bv] w fun e w' => e = .returned (.int .i64 (D.append k b).1) ∧
      ∃ F' ks' X', DiskAt w' p mb F' ks' X' (D.append k b).2 ∧ DStep X X' w w' := by
  obtain ⟨ab, cb, rfl, _, _⟩ := hb.opened
  have c3 := h.c3
  have c0 := h.c0
  have c1 := h.c1
  have hrm := h.room
  have hus := h.used
  have HH := Lib.hid h
  have HRM := Lib.hid hrm
  have HUS := Lib.hid hus
  clear h
  go_enter Try.func44, Try.ntmps44
  go_wp2_with fail
  refine (exists_any k _).mono ?_
  rintro e w1 ⟨rfl, rfl⟩
  by_cases hk : 0 ≤ k ∧ k < 64
  · rw [decide_eq_true hk]
    cases ho : D.off
    · rw [ho] at c3
      have hw : wrap64 (D.room - (D.used : Int)) = D.room - (D.used : Int) := by unfold wrap64; omega
      have hw' : IntKind.i64.wrap (D.room - (D.used : Int)) = D.room - (D.used : Int) := by rw [IntKind.wrap_i64]; omega
      have c0d : w.drew.cell? ⟨p, 0, none⟩ = some (.int .i64 D.room) := c0
      have c1d : w.drew.cell? ⟨p, 1, none⟩ = some (.int .i64 (D.used : Int)) := c1
      by_cases hf : D.room - D.used < b.length
      · go_wp2_with fail
        go_quiet (fail)
        go_wp2_with fail
        go_ret
        unfold Dk.append
        rw [if_neg (by simpa using hk), ho, if_neg (by simp), if_pos hf]
        exact ⟨rfl, F, ks, X, HH.out.later (belD (Below.refl _ _) nq), DStep.ofBelow X (belD (Below.refl _ _) nq)⟩
      · have hA : D.append k b = ((if D.failsB then 19 else 0), D.fails.put k ((D.fs k).1 ++ b) (D.fs k).2) := by
          unfold Dk.append
          rw [if_neg (by simpa using hk), ho, if_neg (by simp), if_neg hf]
        have HA := Lib.hid hA
        have HF := Lib.hid hf
        go_wp2_with fail
        go_quiet (fail)
        have H1 := HH.out.later (belD (Below.refl w.heap.size w) nq)
        have R1 := hb.below (belD (Below.refl w.heap.size w) nq)
        have S1 := DStep.ofBelow X (belD (Below.refl w.heap.size w) nq)
        generalize w.drewN nq = w1 at H1 R1 S1 ⊢
        clear c0 c1 c3 c0d c1d hA
        go_wp2_with fail
        refine (fails_any w1 H1).mono ?_
        rintro e w2 ⟨rfl, H2, P2⟩
        have S2 := S1.trans (P2.toD H1.xp)
        have R2 := rvSame (w' := w2) R1 (fun g hg hv => P2.2.2.2.2 g hg (fun e => hbX g hv (by rw [e]; exact H1.xp)))
        obtain ⟨hfs, hfr⟩ := fails_fs D
        obtain ⟨a, c, hlook, hown, hblk⟩ := H2.old k
        have hdur := H2.dur k
        rw [hfs] at hlook hown hblk hdur
        have hroom : ((D.fails.put k ((D.fs k).1 ++ b) (D.fs k).2).used : Int) ≤ D.fails.room := by
          have hu := D.fails.used_put k ((D.fs k).1 ++ b) (D.fs k).2 hk.1 hk.2
          have hu2 : D.fails.used = D.used := by unfold Dk.used; rw [hfs]
          rw [hfs, hu2, List.length_append] at hu
          rw [hfr]
          have := HF.out
          omega
        obtain ⟨du, hdu⟩ : ∃ d, (D.fs k).2 = d := ⟨_, rfl⟩
        obtain ⟨bs, hbs⟩ : ∃ x, (D.fs k).1 = x := ⟨_, rfl⟩
        have hA2 := HA.out
        rw [hdu, hbs] at hroom hA2 hlook hdur
        rw [hbs] at hown hblk
        obtain ⟨n, hn⟩ : ∃ n, bs.length = n := ⟨_, rfl⟩
        have hnb : n ≤ 16777216 := by
          have h1 := D.le_used k hk.1 hk.2
          rw [hbs, hn] at h1
          have h2 := HRM.out
          have h3 := HUS.out
          omega
        rw [hn] at hlook hown hblk hdur
        have HROOM := Lib.hid hroom
        have HA := Lib.hid hA2
        have HN := Lib.hid hn
        have hlk := H2.look2 k hlook w2 rfl
        have c2 := H2.c2
        clear hroom hA2 hn hbs hdu hfs hfr H1 R1 S1 P2 hf hrm hus
        go_upto_region 9 with fail
        have BA := (Below.refl w2.heap.size w2).alloc (Nat.le_refl _) (.cells #[.slice a n c, .int .i64 (du : Int)] 105)
        have hfb := World.alloc_heap_new w2 (.cells #[.slice a n c, .int .i64 (du : Int)] 105)
        have H3 := H2.later BA
        have R3 := R2.below BA
        have O3 := hown.alloc (.cells #[.slice a n c, .int .i64 (du : Int)] 105)
        have S3 := S2.trans (DStep.ofBelow X BA)
        have hlo : ∀ x, (Value.slice a n c).ownBlock = some x → x < w2.heap.size := fun x hx => (hown.lt x hx).2
        generalize hgw : w2.alloc (.cells #[.slice a n c, .int .i64 (du : Int)] 105) = w3 at BA hfb H3 R3 O3 S3 ⊢
        generalize hgf : w2.heap.size = fb at hfb hlo ⊢
        have hfl : fb < w3.heap.size := (Array.getElem?_eq_some_iff.1 hfb).1
        have hXf : ∀ x, X x → x < fb := fun x hx => by rw [← hgf]; exact H2.xl x hx
        have hwf : w.heap.size ≤ fb := by rw [← hgf]; exact S2.size
        clear hgw hgf H2 R2 hown hlk c2 S2 BA
        have f0 : w3.cell? ⟨fb, 0, none⟩ = some (.slice a n c) := by simp [World.cell?, hfb]
        go_wp2_with (at_builtin; go_loud (refine wpList_app2 _ rfl _ _ rfl Try.elB 0 _ n _ rfl O3 _ b.length _ rfl R3 (by simp) (ones_B _) (by omega) (Nat.zero_le _) ?_; intro v5 w5 O5 g5 s5; refine later ?_))
        have H5 : DiskX (fun j => j = k) w5 p mb F ks X D.fails := H3.grow g5 (fun x hx => (hblk x hx).2)
        have O5 : w5.ownsRow 0 5 1 v5 (bs ++ b).length ((bs ++ b).map vB) := by rw [List.length_append, HN.out, List.map_append]; exact O5
        have hfb5 := (g5.block fb hfl (fun e => by have := hlo fb e.symm; omega)).trans hfb
        have hv5 : ∀ x, v5.ownBlock = some x → (X x ∨ fb < x) ∧ x ≠ p ∧ x ≠ mb ∧ x ≠ fb ∧ ∀ j u e, j ≠ k → F j = some (.agg #[u, e]) → u.ownBlock ≠ some x := fun x hx => by
          rcases s5 with s | s
          · rw [s] at hx
            have h := hblk x hx
            exact ⟨.inl h.1, h.2.1, h.2.2.1, fun e => by have := hlo x hx; omega, h.2.2.2⟩
          · have hx2 := s x hx
            have hp := hXf p H3.xp
            have hm := hXf mb H3.xm
            exact ⟨.inr (by omega), by omega, by omega, by omega, fun j u e _ hF hu => by have := hXf x ((H3.row j u e id hF).2 x hu).1; omega⟩
        have hg5 : ∀ x, x < w3.heap.size → ¬ X x → w5.heap[x]? = w3.heap[x]? := fun x hx hX => g5.block x hx (fun e => hX (hblk x e.symm).1)
        obtain ⟨a5, c5, rfl, _, _⟩ := (Rv.of_own O5).opened
        obtain ⟨B, hB⟩ : ∃ B, bs ++ b = B := ⟨_, rfl⟩
        have HROOM2 := HROOM.out
        have HA2 := HA.out
        have hdB : du ≤ B.length := by
          have := HN.out
          rw [← hB, List.length_append]
          omega
        rw [hB] at O5 hv5 HROOM2 HA2
        rw [hB]
        have HROOM := Lib.hid HROOM2
        have HA := Lib.hid HA2
        have hs5 := g5.size
        have G5 : w5.os = w3.os ∧ w5.tape = w3.tape ∧ w5.output = w3.output := ⟨g5.os, g5.tape, g5.output⟩
        have ffz := (show ∀ j, w5.frozen? ⟨fb, j, none⟩ = false from fun j => by simp [World.frozen?, hfb5])
        have f5 : w5.cell? ⟨fb, 0, none⟩ = some (.slice a n c) := by simp [World.cell?, hfb5]
        have H6 := H5.kept (w' := w5.setCell ⟨fb, 0, none⟩ (.slice a5 B.length c5)) (by simp) (fun x hx => Below.heap_setCell _ _ _ _ (by have := hXf x hx; show x ≠ fb; omega))
        have O6 := own_same (w' := w5.setCell ⟨fb, 0, none⟩ (.slice a5 B.length c5)) O5 (fun x hx => Below.heap_setCell _ _ _ _ (hv5 x hx).2.2.2.1)
        have hfb6 := setBlk hfb5 0 (.slice a5 B.length c5)
        simp only [List.setIfInBounds_toArray, List.set_cons_zero] at hfb6
        clear f0 g5 s5 O3 R3 H5 O5 hfb HROOM2 HA2 H3
        refine Later.in ?_
        go_upto_region 10 with fail
        have hg6 : ∀ x, x < w3.heap.size → ¬ X x → x ≠ fb → (w5.setCell ⟨fb, 0, none⟩ (.slice a5 B.length c5)).heap[x]? = w3.heap[x]? := fun x hx hX hxf => (Below.heap_setCell _ _ _ _ hxf).trans (hg5 x hx hX)
        have hs6 : w3.heap.size ≤ (w5.setCell ⟨fb, 0, none⟩ (.slice a5 B.length c5)).heap.size := by rw [World.size_setCell]; exact hs5
        have G6 : (w5.setCell ⟨fb, 0, none⟩ (.slice a5 B.length c5)).os = w3.os ∧ (w5.setCell ⟨fb, 0, none⟩ (.slice a5 B.length c5)).tape = w3.tape ∧ (w5.setCell ⟨fb, 0, none⟩ (.slice a5 B.length c5)).output = w3.output := G5
        generalize w5.setCell ⟨fb, 0, none⟩ (.slice a5 B.length c5) = w6 at H6 O6 hfb6 hg6 hs6 G6 ⊢
        have k0 : w6.cell? ⟨fb, 0, none⟩ = some (.slice a5 B.length c5) := by simp [World.cell?, hfb6]
        have k1 : w6.cell? ⟨fb, 1, none⟩ = some (.int .i64 (du : Int)) := by simp [World.cell?, hfb6]
        have hput := put_any k a5 c5 du B w6 H6 hk.1 hk.2 O6 (fun x hx => ⟨(hv5 x hx).2.1, (hv5 x hx).2.2.1, (hv5 x hx).2.2.2.2⟩) hdB HROOM.out
        have HP := Lib.hid hput
        clear hput ffz f5 hg5 hs5 G5 hfb5
        go_wp2_with fail
        refine HP.out.mono ?_
        rintro e w7 ⟨rfl, ⟨F7, ks7, D7⟩, Q7⟩
        have hstep : DStep X (fun x => X x ∨ (Value.slice a5 B.length c5).ownBlock = some x) w w7 := by
          refine ⟨Q7.os.trans (G6.1.trans S3.os), Q7.tape.trans (G6.2.1.trans S3.tape), Q7.output.trans (G6.2.2.trans S3.output), Nat.le_trans S3.size (Nat.le_trans hs6 Q7.size), fun x hx hX => ?_, fun x hx => ?_⟩
          · have hx3 := Nat.lt_of_lt_of_le hx S3.size
            exact (Q7.block x (Nat.lt_of_lt_of_le hx3 hs6) (fun e => hX (by rw [e]; exact H6.xp)) (fun e => hX (by rw [e]; exact H6.xm))).trans ((hg6 x hx3 hX (by omega)).trans (S3.block x hx hX))
          · rcases hx with hx | hx
            · exact .inl hx
            · rcases (hv5 x hx).1 with h | h
              · exact .inl h
              · exact .inr (by omega)
        have hA2 := HA.out
        obtain ⟨fv, hfv⟩ : ∃ v, D.failsB = v := ⟨_, rfl⟩
        rw [hfv] at hA2 ⊢
        clear HA HP O6 hfb6 k0 k1 H6 hfv
        have HA := Lib.hid hA2
        clear hA2
        cases fv
        · go_wp2_with fail
          go_ret
          rw [HA.out]
          exact ⟨rfl, F7, ks7, _, D7, hstep⟩
        · go_wp2_with fail
          go_ret
          rw [HA.out]
          exact ⟨rfl, F7, ks7, _, D7, hstep⟩
    · rw [ho] at c3
      go_wp2_with fail
      go_ret
      unfold Dk.append
      rw [if_neg (by simpa using hk), ho, if_pos rfl]
      exact ⟨rfl, F, ks, X, HH.out, DStep.refl _ _⟩
  · rw [decide_eq_false hk]
    go_wp2_with fail
    go_ret
    unfold Dk.append
    rw [if_pos hk]
    exact ⟨rfl, F, ks, X, HH.out, DStep.refl _ _⟩
end Go.Proofs.Ytpehnggglolnoaa
