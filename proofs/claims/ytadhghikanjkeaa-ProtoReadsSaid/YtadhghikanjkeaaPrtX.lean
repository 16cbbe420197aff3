/- Package proto: Feed. -/
import Derived.Test.YtadhghikanjkeaaPrtW
namespace Go.Proofs.Ytadhghikanjkeaa
open Go.RowKit

theorem rvTail {w : World} {ao : Option Addr} {n cap : Nat} {us : List Value} (h : Rv w (.slice ao n cap) n us) (hu : us.length = n) (p : Nat) (hp : p ≤ n) :
    ∀ A m C, A = (if cap = p then ao else ao.map (·.add p)) → m = n - p → C = cap - p → Rv w (.slice A m C) (n - p) (us.drop p) := by
  intro A m C hA hm hC
  rw [hA, hm, hC]
  obtain ⟨a', c', e1, _, e3⟩ := h.sliced 1 p n hp (Nat.le_refl _)
  cases e1
  have ht : (us.drop p).take (n - p) = us.drop p := List.take_of_length_le (by rw [List.length_drop]; omega)
  simp only [Nat.mul_one] at e3
  rwa [ht] at e3

set_option maxRecDepth 20000 in
set_option maxHeartbeats 1000000 in
theorem cloneB_any (v : Value) (l : List UInt8) (w : World) (hv : Rv w v l.length (l.map vB)) (hl : l.length ≤ 1000000000) :
    Calls Try.prog 51 #[v] w (RetMade w 5 (l.map vB)) := by
  obtain ⟨ao, cap, rfl, hcap, hrd⟩ := hv.opened
  have hnil : ∀ (a : Option Addr) (n c : Nat), (binOp .eql 23 (.slice a n c) (.slice none 0 0)).run Try.prog w = .ok (.bool a.isNone) w := fun a n c => Lib.run_eql_slice_nil w _ _ a n c 0 0 Try.underlying23
  go_enter Try.func51, Try.ntmps51
  cases ao with
  | none =>
    have hn : l = [] := by
      obtain ⟨_, _, e, _, _, h0, _⟩ := hv
      cases e
      have := h0 rfl
      exact List.eq_nil_of_length_eq_zero (by omega)
    subst hn
    obtain ⟨_, _, e, _, _, h0, _⟩ := hv
    cases e
    obtain rfl := h0 rfl
    go_wp2_with fail
    go_ret
    exact retMade (World.ownsRow_nil _ _ _ _) rfl (Below.refl _ _)
  | some a =>
    go_wp2_with (at_builtin; refine wpList_app _ rfl _ _ rfl Try.elB w.heap.size _ 0 _ rfl (own_empty w _) _ l.length _ rfl (hv.below ((Below.refl _ _).alloc (Nat.le_refl _) _)) (by simp) (ones_B _) (by omega) (by simp) ?_; intro v2 w2 hown hg _)
    go_ret
    exact retMade hown (by simp) (((Below.refl _ w).alloc (Nat.le_refl _) _).grown hg (by simp) (fun g hg' => by cases hg'; exact Nat.le_refl _))
/-- A list of messages in memory from block N on. -/
structure MsV (N : Nat) (W : World) (v : Value) (l : List MV) : Prop where
  own : W.ownsRow N 33 6 v l.length (mvcells l)
  rd : ∀ p ∈ l, Cells6 W p.m p.ab p.af p.cb p.cf
  low : ∀ p ∈ l, ∀ g, (p.body.ownBlock = some g ∨ p.fnd.ownBlock = some g) → N ≤ g ∧ g < W.heap.size ∧ v.ownBlock ≠ some g
theorem MsL.toV {w W : World} {v : Value} {l : List MV} (h : MsL w W v l) {N : Nat} (hN : N ≤ w.heap.size) : MsV N W v l :=
  ⟨own_base h.own hN, h.rd, fun p hp g hg => ⟨Nat.le_trans hN (h.low p hp g hg).1, (h.low p hp g hg).2⟩⟩
theorem MsV.set {N : Nat} {W : World} {v : Value} {l : List MV} (h : MsV N W v l) {q : Nat} (hq : q < N) (j : Nat) (x : Value) : MsV N (W.setCell ⟨q, j, none⟩ x) v l :=
  ⟨ownSet h.own hq _ _, fun p hp => ⟨rvFar (h.rd p hp).body (fun k hk => Below.heap_setCell _ _ _ _ hk) (fun e => by have := (h.low p hp q (.inl e)).1; omega), rvFar (h.rd p hp).fnd (fun k hk => Below.heap_setCell _ _ _ _ hk) (fun e => by have := (h.low p hp q (.inr e)).1; omega)⟩,
    fun p hp g hg => by have := h.low p hp g hg; rw [World.size_setCell]; exact this⟩
theorem MsV.later {N : Nat} {W W' : World} {v : Value} {l : List MV} (h : MsV N W v l) (B : Below W.heap.size W W') : MsV N W' v l :=
  ⟨own_below h.own B, fun p hp => (h.rd p hp).below B, fun p hp g hg => ⟨(h.low p hp g hg).1, Nat.lt_of_lt_of_le (h.low p hp g hg).2.1 B.size, (h.low p hp g hg).2.2⟩⟩
theorem WStep.ofBelow {w w' : World} (q : Nat) (v : Value) (B : Below w.heap.size w w') : WStep w w' q v v := ⟨B.os, B.tape, B.output, B.size, fun k hk _ _ => B.block k hk, .inl rfl⟩
theorem WStep.set {w w' : World} {q : Nat} {v v' : Value} (h : WStep w w' q v v') (j : Nat) (x : Value) : WStep w (w'.setCell ⟨q, j, none⟩ x) q v v' :=
  ⟨h.os, h.tape, h.output, by rw [World.size_setCell]; exact h.size, fun k hk h1 h2 => (Below.heap_setCell _ _ _ _ h1).trans (h.block k hk h1 h2), h.own⟩
theorem WStep.reown {w w' : World} {q : Nat} {v v' v'' : Value} (h : WStep w w' q v v') (hs : SameOrNew w v v'') : WStep w w' q v v'' := ⟨h.os, h.tape, h.output, h.size, h.block, hs⟩
/-- What is held lies apart from what was returned. -/
def Apart (hv v : Value) (L : List MV) : Prop := ∀ g, hv.ownBlock = some g → v.ownBlock ≠ some g ∧ ∀ p ∈ L, p.body.ownBlock ≠ some g ∧ p.fnd.ownBlock ≠ some g
theorem apart_low {w W : World} {v hv : Value} {L : List MV} (M : MsL w W v L) (h : ∀ g, hv.ownBlock = some g → g < w.heap.size) : Apart hv v L := fun g hg =>
  ⟨fun e => by have := (M.own.lt g e).1; have := h g hg; omega, fun p hp => ⟨fun e => by have := (M.low p hp g (.inl e)).1; have := h g hg; omega, fun e => by have := (M.low p hp g (.inr e)).1; have := h g hg; omega⟩⟩
theorem apart_high {w W : World} {v hv : Value} {L : List MV} (M : MsL w W v L) (h : ∀ g, hv.ownBlock = some g → W.heap.size ≤ g) : Apart hv v L := fun g hg =>
  ⟨fun e => by have := (M.own.lt g e).2; have := h g hg; omega, fun p hp => ⟨fun e => by have := (M.low p hp g (.inl e)).2.1; have := h g hg; omega, fun e => by have := (M.low p hp g (.inr e)).2.1; have := h g hg; omega⟩⟩
/-- What Feed answers. -/
def FdPost (w : World) (q : Nat) (hv : Value) (B : List UInt8) (en : Ending) (w' : World) : Prop :=
  ∃ (v : Value) (L : List MV) (hv' : Value), en = .returned (.tuple #[v, .int .i64 (feedP B).2.2]) ∧ L.map MV.m = (feedP B).1 ∧ MsV w.heap.size w' v L ∧ PRd w' q hv' (feedP B).2.1 (feedP B).2.2 ∧ WStep w w' q hv hv' ∧ Apart hv' v L

set_option maxRecDepth 20000 in
set_option maxHeartbeats 2000000 in
theorem feed_any (q : Nat) (hv : Value) (held bs : List UInt8) (v : Value) (w : World) (hR : PRd w q hv held 0) (hb : Rv w v bs.length (bs.map vB)) (hl : held.length + bs.length ≤ 1000000) :
    Calls Try.prog 28 #[.pointer (some ⟨q, 0, none⟩), v] w (FdPost w q hv (held ++ bs)) := by
  obtain ⟨ab, cb, rfl, _, _⟩ := hb.opened
  have c0 := hR.c0
  have c1 := hR.c1
  have fz := fun j => hR.fz j
  have hql := hR.lt
  go_enter Try.func28, Try.ntmps28
  go_wp2_with (at_builtin; refine wpList_app2 _ rfl _ _ rfl Try.elB (q + 1) _ _ _ rfl hR.own _ bs.length _ rfl hb (by simp) (ones_B _) (by omega) (by omega) ?_; intro v1 w1 O1 g1 s1; refine later ?_)
  rw [← List.map_append, ← List.length_append] at O1
  obtain ⟨B, hBe⟩ : ∃ B, held ++ bs = B := ⟨_, rfl⟩
  have hBl : B.length ≤ 1000000 := by rw [← hBe, List.length_append]; exact hl
  rw [hBe] at O1 ⊢
  have HBE := Lib.hid hBe
  clear hBe hl
  obtain ⟨a1, k1, rfl, hk1, _⟩ := (Rv.of_own O1).opened
  have hlt := hR.own.lt
  have hgb : Below (q + 1) w w1 := ⟨g1.os, g1.tape, g1.output, g1.size, fun k hk => g1.block k (by omega) (fun e => by have := (hlt k e.symm).1; omega)⟩
  have hblk := (hgb.block q (by omega)).trans hR.blk
  have d0 : w1.cell? ⟨q, 0, none⟩ = some hv := by simp [World.cell?, hblk]
  have d1 : w1.cell? ⟨q, 1, none⟩ = some (.int .i64 0) := by simp [World.cell?, hblk]
  have dz : ∀ j, w1.frozen? ⟨q, j, none⟩ = false := fun j => by simp [World.frozen?, hblk]
  have R2 : PRd (w1.setCell ⟨q, 0, none⟩ (.slice a1 B.length k1)) q (.slice a1 B.length k1) B 0 := ⟨by have := setSame (i := 0) hblk (.slice a1 B.length k1); simpa using this, ownSet O1 (by omega) _ _⟩
  have S2 : WStep w (w1.setCell ⟨q, 0, none⟩ (.slice a1 B.length k1)) q hv (.slice a1 B.length k1) :=
    ⟨g1.os, g1.tape, g1.output, by rw [World.size_setCell]; exact g1.size, fun k hk h1 h2 => (Below.heap_setCell _ _ _ _ h1).trans (g1.block k hk h2), s1⟩
  clear c0 c1 fz O1 g1 s1 hgb hblk hR
  refine Later.in ?_
  go_wp2_with fail
  generalize hgw : w1.setCell ⟨q, 0, none⟩ (.slice a1 B.length k1) = w2 at R2 S2 ⊢
  clear hgw d0 d1 dz
  have hql2 := R2.lt
  have M0 := MsL.none w2
  go_loopw [6, 7] (fun lv av wr => ∃ (at' : Nat) (L : List MV), av = .int .i64 (at' : Int) ∧ at' ≤ B.length ∧ 20 * L.length ≤ at' ∧ Hid (feedP B = (L.map MV.m ++ (feedP (B.drop at')).1, (feedP (B.drop at')).2)) ∧ MsL w2 wr lv L) (fun _ av _ => B.length - (intOf av).toNat)
  case atStart => exact ⟨0, [], by first | rfl | trivial, Nat.zero_le _, by simp, Lib.hid (by simp), M0⟩
  case round =>
    obtain ⟨at', L, rfl, hat, hL20, HF, M⟩ := hrel
    have RR := R2.later M.bel
    have c0 := RR.c0
    have fz := fun j => RR.fz j
    have hati : (at' : Int) ≤ (B.length : Int) := by omega
    obtain ⟨D, hD⟩ : ∃ D, B.drop at' = D := ⟨_, rfl⟩
    have hDl : D.length = B.length - at' := by rw [← hD, List.length_drop]
    have rt := rvTail (Rv.of_own RR.own) (by simp) at' hat
    rw [← List.map_drop, hD] at rt
    have hde := fun (A : Option Addr) (C : Nat) (h : Rv wr (.slice A (B.length - at') C) (B.length - at') (D.map vB)) => by
      have := decode_any A C D wr (by rw [hDl]; exact h) (by omega)
      rw [hDl] at this
      exact this
    have HDE := Lib.hid hde
    have HRT := Lib.hid rt
    have hsz2 := S2.size
    have hf := HF.out
    rw [hD] at hf
    have HF := Lib.hid hf
    have HDL := Lib.hid hDl
    have HD := Lib.hid hD
    clear hde rt hf hDl hD
    by_cases hca : k1 = at'
    · have hDe : D = [] := List.eq_nil_of_length_eq_zero (by have := HDL.out; omega)
      have h3 : (decP D).2.2 = 3 := by rw [hDe]; rfl
      clear hDe
      go_wp2_with fail
      refine (HDE.out _ _ (HRT.out _ _ _ (by rw [if_pos hca]) rfl (by omega))).mono ?_
      unfold DePost
      rintro e w3 ⟨x, rfl, ⟨z1, z2, z3, z4, rfl, M9, l1, l2⟩, B3⟩
      have ML := M.later B3
      have hfd := HF.out
      rw [feedP_more h3, List.append_nil] at hfd
      have HFD := Lib.hid hfd
      have R4 := (R2.later (M.bel.trans (B3.mono M.bel.size))).later ((Below.refl _ _).alloc (Nat.le_refl _) (.cells #[.int .i64 (decP D).1.k, .int .i64 (decP D).1.c, .int .i64 (decP D).1.v, .int .i64 (decP D).1.o, .slice z1 (decP D).1.body.length z3, .slice z2 (decP D).1.fnd.length z4] 33))
      have hB4 : Below w2.heap.size w2 (w3.alloc (.cells #[.int .i64 (decP D).1.k, .int .i64 (decP D).1.c, .int .i64 (decP D).1.v, .int .i64 (decP D).1.o, .slice z1 (decP D).1.body.length z3, .slice z2 (decP D).1.fnd.length z4] 33)) := (M.bel.trans (B3.mono M.bel.size)).alloc (M.bel.trans (B3.mono M.bel.size)).size _
      have ML4 := (ML.later ((Below.refl _ _).alloc (Nat.le_refl _) (.cells #[.int .i64 (decP D).1.k, .int .i64 (decP D).1.c, .int .i64 (decP D).1.v, .int .i64 (decP D).1.o, .slice z1 (decP D).1.body.length z3, .slice z2 (decP D).1.fnd.length z4] 33))).toV (N := w.heap.size) S2.size
      have hwr4 : wr.heap.size ≤ (w3.alloc (.cells #[.int .i64 (decP D).1.k, .int .i64 (decP D).1.c, .int .i64 (decP D).1.v, .int .i64 (decP D).1.o, .slice z1 (decP D).1.body.length z3, .slice z2 (decP D).1.fnd.length z4] 33)).heap.size := Nat.le_trans B3.size (by rw [World.size_alloc]; omega)
      have e0 := R4.c0
      have ez := fun j => R4.fz j
      have hql4 := R4.lt
      rw [h3]
      have rt4 := rvTail (Rv.of_own R4.own) (by simp) at' hat
      rw [← List.map_drop, HD.out, ← HDL.out] at rt4
      have hDl2 : D.length ≤ 1000000000 := by have := HDL.out; omega
      have HRT4 := Lib.hid rt4
      clear rt4 hfd h3 HF HDE HRT c0 fz M0
      unfold msgV
      by_cases hp : at' = 0
      · have hpi : ¬ (0 : Int) < (at' : Int) := by omega
        have hDB := Lib.hid (show D = B by rw [← HD.out, hp]; rfl)
        go_wp2_with fail
        go_ret2
        rw [HBE.out]
        refine ⟨_, L, _, ?_, ?_, ML4, ?_, S2.trans (WStep.ofBelow q _ hB4), apart_low M (fun g hg => (R2.own.lt g hg).2)⟩
        · rw [HFD.out]; rfl
        · rw [HFD.out]
        · rw [HFD.out]; exact (fun (X : List UInt8) (hX : X = B) => by subst hX; exact R4 : ∀ X : List UInt8, X = B → PRd _ q (.slice a1 B.length k1) X 0) D hDB.out
      · have hpi : (0 : Int) < (at' : Int) := by omega
        have hpn : 0 < at' := by omega
        clear hp
        go_wp2_with fail
        rw [← HDL.out]
        refine (cloneB_any _ D _ (HRT4.out _ _ _ (by rw [if_pos hca]) rfl (by omega)) hDl2).mono ?_
        rintro e w6 ⟨v6, rfl, M6⟩
        have R6 := R4.later M6.2
        have f0 := R6.c0
        have fz6 := fun j => R6.fz j
        obtain ⟨a6, c6, rfl, _, _⟩ := M6.rvB.opened
        go_wp2_with fail
        go_ret2
        rw [HBE.out]
        refine ⟨_, L, .slice a6 D.length c6, ?_, ?_, (ML4.later M6.2).set hql 0 _, ?_, ?_, apart_high M (fun g hg => Nat.le_trans hwr4 (M6.1.lt g hg).1)⟩
        · rw [HFD.out]; rfl
        · rw [HFD.out]
        · rw [HFD.out]
          refine ⟨by have := setSame (i := 0) R6.blk (.slice a6 D.length c6); simpa using this, ?_⟩
          have ho := own_base M6.1 (show q + 1 ≤ (w3.alloc (.cells #[.int .i64 (decP D).1.k, .int .i64 (decP D).1.c, .int .i64 (decP D).1.v, .int .i64 (decP D).1.o, .slice z1 (decP D).1.body.length z3, .slice z2 (decP D).1.fnd.length z4] 33)).heap.size by omega)
          rw [List.length_map] at ho
          exact ownSet ho (by omega) _ _
        · exact ((S2.trans (WStep.ofBelow q _ (bel hB4 M6.2))).set 0 _).reown (.inr fun g hg => Nat.le_trans (Nat.le_trans S2.size hB4.size) (M6.1.lt g hg).1)
    · go_wp2_with fail
      refine (HDE.out _ _ (HRT.out _ _ _ (by rw [if_neg hca]) rfl rfl)).mono ?_
      unfold DePost
      rintro e w3 ⟨x, rfl, ⟨z1, z2, z3, z4, rfl, M9, l1, l2⟩, B3⟩
      have ML := M.later B3
      by_cases h3 : (decP D).2.2 = 3
      · skip
        have hfd := HF.out
        rw [feedP_more h3, List.append_nil] at hfd
        have HFD := Lib.hid hfd
        have R4 := (R2.later (M.bel.trans (B3.mono M.bel.size))).later ((Below.refl _ _).alloc (Nat.le_refl _) (.cells #[.int .i64 (decP D).1.k, .int .i64 (decP D).1.c, .int .i64 (decP D).1.v, .int .i64 (decP D).1.o, .slice z1 (decP D).1.body.length z3, .slice z2 (decP D).1.fnd.length z4] 33))
        have hB4 : Below w2.heap.size w2 (w3.alloc (.cells #[.int .i64 (decP D).1.k, .int .i64 (decP D).1.c, .int .i64 (decP D).1.v, .int .i64 (decP D).1.o, .slice z1 (decP D).1.body.length z3, .slice z2 (decP D).1.fnd.length z4] 33)) := (M.bel.trans (B3.mono M.bel.size)).alloc (M.bel.trans (B3.mono M.bel.size)).size _
        have ML4 := (ML.later ((Below.refl _ _).alloc (Nat.le_refl _) (.cells #[.int .i64 (decP D).1.k, .int .i64 (decP D).1.c, .int .i64 (decP D).1.v, .int .i64 (decP D).1.o, .slice z1 (decP D).1.body.length z3, .slice z2 (decP D).1.fnd.length z4] 33))).toV (N := w.heap.size) S2.size
        have hwr4 : wr.heap.size ≤ (w3.alloc (.cells #[.int .i64 (decP D).1.k, .int .i64 (decP D).1.c, .int .i64 (decP D).1.v, .int .i64 (decP D).1.o, .slice z1 (decP D).1.body.length z3, .slice z2 (decP D).1.fnd.length z4] 33)).heap.size := Nat.le_trans B3.size (by rw [World.size_alloc]; omega)
        have e0 := R4.c0
        have ez := fun j => R4.fz j
        have hql4 := R4.lt
        rw [h3]
        have rt4 := rvTail (Rv.of_own R4.own) (by simp) at' hat
        rw [← List.map_drop, HD.out, ← HDL.out] at rt4
        have hDl2 : D.length ≤ 1000000000 := by have := HDL.out; omega
        have HRT4 := Lib.hid rt4
        clear rt4 hfd h3 HF HDE HRT c0 fz M0
        unfold msgV
        by_cases hp : at' = 0
        · have hpi : ¬ (0 : Int) < (at' : Int) := by omega
          have hDB := Lib.hid (show D = B by rw [← HD.out, hp]; rfl)
          go_wp2_with fail
          go_ret2
          rw [HBE.out]
          refine ⟨_, L, _, ?_, ?_, ML4, ?_, S2.trans (WStep.ofBelow q _ hB4), apart_low M (fun g hg => (R2.own.lt g hg).2)⟩
          · rw [HFD.out]; rfl
          · rw [HFD.out]
          · rw [HFD.out]; exact (fun (X : List UInt8) (hX : X = B) => by subst hX; exact R4 : ∀ X : List UInt8, X = B → PRd _ q (.slice a1 B.length k1) X 0) D hDB.out
        · have hpi : (0 : Int) < (at' : Int) := by omega
          have hpn : 0 < at' := by omega
          clear hp
          go_wp2_with fail
          rw [← HDL.out]
          refine (cloneB_any _ D _ (HRT4.out _ _ _ (by rw [if_neg hca]) rfl (by omega)) hDl2).mono ?_
          rintro e w6 ⟨v6, rfl, M6⟩
          have R6 := R4.later M6.2
          have f0 := R6.c0
          have fz6 := fun j => R6.fz j
          obtain ⟨a6, c6, rfl, _, _⟩ := M6.rvB.opened
          go_wp2_with fail
          go_ret2
          rw [HBE.out]
          refine ⟨_, L, .slice a6 D.length c6, ?_, ?_, (ML4.later M6.2).set hql 0 _, ?_, ?_, apart_high M (fun g hg => Nat.le_trans hwr4 (M6.1.lt g hg).1)⟩
          · rw [HFD.out]; rfl
          · rw [HFD.out]
          · rw [HFD.out]
            refine ⟨by have := setSame (i := 0) R6.blk (.slice a6 D.length c6); simpa using this, ?_⟩
            have ho := own_base M6.1 (show q + 1 ≤ (w3.alloc (.cells #[.int .i64 (decP D).1.k, .int .i64 (decP D).1.c, .int .i64 (decP D).1.v, .int .i64 (decP D).1.o, .slice z1 (decP D).1.body.length z3, .slice z2 (decP D).1.fnd.length z4] 33)).heap.size by omega)
            rw [List.length_map] at ho
            exact ownSet ho (by omega) _ _
          · exact ((S2.trans (WStep.ofBelow q _ (bel hB4 M6.2))).set 0 _).reown (.inr fun g hg => Nat.le_trans (Nat.le_trans S2.size hB4.size) (M6.1.lt g hg).1)
      · have hb3 : ((decP D).2.2 == 3) = false := by simpa using h3
        by_cases h0 : (decP D).2.2 = 0
        · have hsz := decP_size D h0
          have hdl := HDL.out
          have hf2 := HF.out
          rw [feedP_one h0, ← HD.out, List.drop_drop] at hf2
          rw [HD.out] at hf2
          obtain ⟨dn, hdn⟩ : ∃ dn, (decP D).2.1 = dn := ⟨_, rfl⟩
          rw [hdn] at hf2 hsz ⊢
          rw [h0]
          have HF2 := Lib.hid hf2
          have hdn1 : at' + dn ≤ B.length := by omega
          have hdn2 : 20 ≤ dn := hsz.1
          have hX : Rv ((w3.alloc (.cells #[.int .i64 (decP D).1.k, .int .i64 (decP D).1.c, .int .i64 (decP D).1.v, .int .i64 (decP D).1.o, .slice z1 (decP D).1.body.length z3, .slice z2 (decP D).1.fnd.length z4] 33)).alloc (.cells #[.int .i64 (decP D).1.k, .int .i64 (decP D).1.c, .int .i64 (decP D).1.v, .int .i64 (decP D).1.o, .slice z1 (decP D).1.body.length z3, .slice z2 (decP D).1.fnd.length z4] 33)) (.slice (some ⟨w3.heap.size + 1, 0, none⟩) 1 1) 1 #[.int .i64 (decP D).1.k, .int .i64 (decP D).1.c, .int .i64 (decP D).1.v, .int .i64 (decP D).1.o, .slice z1 (decP D).1.body.length z3, .slice z2 (decP D).1.fnd.length z4].toList := Rv.of_cells (by omega) (by unfold maxLen; omega) (fun i u hu => by
            have hn := World.alloc_heap_new (w3.alloc (.cells #[.int .i64 (decP D).1.k, .int .i64 (decP D).1.c, .int .i64 (decP D).1.v, .int .i64 (decP D).1.o, .slice z1 (decP D).1.body.length z3, .slice z2 (decP D).1.fnd.length z4] 33)) (.cells #[.int .i64 (decP D).1.k, .int .i64 (decP D).1.c, .int .i64 (decP D).1.v, .int .i64 (decP D).1.o, .slice z1 (decP D).1.body.length z3, .slice z2 (decP D).1.fnd.length z4] 33)
            rw [World.size_alloc] at hn
            unfold World.cell?
            rw [hn]
            simpa using hu)
          have MLx := (ML.later ((Below.refl _ _).alloc (Nat.le_refl _) (.cells #[.int .i64 (decP D).1.k, .int .i64 (decP D).1.c, .int .i64 (decP D).1.v, .int .i64 (decP D).1.o, .slice z1 (decP D).1.body.length z3, .slice z2 (decP D).1.fnd.length z4] 33))).later ((Below.refl _ _).alloc (Nat.le_refl _) (.cells #[.int .i64 (decP D).1.k, .int .i64 (decP D).1.c, .int .i64 (decP D).1.v, .int .i64 (decP D).1.o, .slice z1 (decP D).1.body.length z3, .slice z2 (decP D).1.fnd.length z4] 33))
          have M9x := (M9.below ((Below.refl _ _).alloc (Nat.le_refl _) (.cells #[.int .i64 (decP D).1.k, .int .i64 (decP D).1.c, .int .i64 (decP D).1.v, .int .i64 (decP D).1.o, .slice z1 (decP D).1.body.length z3, .slice z2 (decP D).1.fnd.length z4] 33))).below ((Below.refl _ _).alloc (Nat.le_refl _) (.cells #[.int .i64 (decP D).1.k, .int .i64 (decP D).1.c, .int .i64 (decP D).1.v, .int .i64 (decP D).1.o, .slice z1 (decP D).1.body.length z3, .slice z2 (decP D).1.fnd.length z4] 33))
          have hLl : L.length ≤ B.length := by omega
          clear hf2 hdl hsz HF HDE HRT h3 h0 hdn
          unfold msgV
          go_wp2_with (at_builtin; refine wpList_app2 _ rfl _ _ rfl Try.elM w2.heap.size _ _ _ rfl MLx.own _ 1 _ rfl hX rfl (by simp [Value.oneCell']) (by omega) MLx.bel.size ?_; intro v5 w5 O5 g5 s5; refine later ?_)
          have ML5 : MsL w2 w5 v5 (L ++ [⟨(decP D).1, z1, z2, z3, z4⟩]) := MLx.app (p := ⟨(decP D).1, z1, z2, z3, z4⟩) O5 g5 s5 M9x (fun g hg => by
            have hm := M.bel.size
            have h := hg.elim (l1 g) (l2 g)
            refine ⟨Nat.le_trans hm h.1, by simp only [World.size_alloc]; omega, fun e => ?_⟩
            have := (M.own.lt g e).2
            omega)
          clear O5 g5 s5 hX MLx M9x
          refine Later.in ?_
          go_wp2_with fail
          refine ⟨⟨at' + dn, L ++ [⟨(decP D).1, z1, z2, z3, z4⟩], by simp, hdn1, by simp only [List.length_append, List.length_singleton]; omega, Lib.hid ?_, ML5⟩, by simp [intOf]; omega⟩
          rw [HF2.out]
          simp
        · have hb0 : ((decP D).2.2 == 0) = false := by simpa using h0
          have hfd := HF.out
          rw [feedP_bad h3 h0, List.append_nil] at hfd
          have HFD := Lib.hid hfd
          obtain ⟨er, her⟩ : ∃ er, (decP D).2.2 = er := ⟨_, rfl⟩
          rw [her] at hb3 hb0 HFD ⊢
          have R3 := R2.later (M.bel.trans (B3.mono M.bel.size))
          have R4 := R3.later ((Below.refl _ _).alloc (Nat.le_refl _) (.cells #[.int .i64 (decP D).1.k, .int .i64 (decP D).1.c, .int .i64 (decP D).1.v, .int .i64 (decP D).1.o, .slice z1 (decP D).1.body.length z3, .slice z2 (decP D).1.fnd.length z4] 33))
          have e0 := R4.c0
          have e1 := R4.c1
          have ez := fun j => R4.fz j
          have hB4 : Below w2.heap.size w2 (w3.alloc (.cells #[.int .i64 (decP D).1.k, .int .i64 (decP D).1.c, .int .i64 (decP D).1.v, .int .i64 (decP D).1.o, .slice z1 (decP D).1.body.length z3, .slice z2 (decP D).1.fnd.length z4] 33)) := (M.bel.trans (B3.mono M.bel.size)).alloc (M.bel.trans (B3.mono M.bel.size)).size _
          have ML4 := (ML.later ((Below.refl _ _).alloc (Nat.le_refl _) (.cells #[.int .i64 (decP D).1.k, .int .i64 (decP D).1.c, .int .i64 (decP D).1.v, .int .i64 (decP D).1.o, .slice z1 (decP D).1.body.length z3, .slice z2 (decP D).1.fnd.length z4] 33))).toV (N := w.heap.size) S2.size
          clear HDE HRT HF c0 fz M0 M her h3 h0
          unfold msgV
          go_wp2_with fail
          go_ret2
          rw [HBE.out]
          refine ⟨_, L, .slice none 0 0, ?_, ?_, (ML4.set hql 0 _).set hql 1 _, ?_, ?_, fun g h => by cases h⟩
          · rw [HFD.out]; rfl
          · rw [HFD.out]
          · rw [HFD.out]
            refine ⟨?_, World.ownsRow_nil _ _ _ _⟩
            have := setSame (i := 1) (setSame (i := 0) R4.blk (.slice none 0 0)) (.int .i64 er)
            simpa using this
          · exact (((S2.trans (WStep.ofBelow q _ hB4)).set 0 _).set 1 _).reown (.inr fun g h => by cases h)
end Go.Proofs.Ytadhghikanjkeaa
