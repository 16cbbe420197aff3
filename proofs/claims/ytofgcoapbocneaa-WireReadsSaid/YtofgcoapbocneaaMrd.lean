/- rexmillref02.Reader.Read: a value of a kind. -/
import Derived.Test.YtofgcoapbocneaaMod5
namespace Go.Proofs.Ytofgcoapbocneaa
open Go.RowKit

theorem Mst.belowb {w w' : World} {b D B : Nat} {s : RS} (h : Mst w b D s) (hb : Below B w w') (hbB : b < B) (hD : D ≤ b) : Mst w' b D s := by
  cases h with
  | ok h => exact .ok ⟨(hb.block b hbB).trans h.hp, h.rv.belowb hb (fun g e => by have := h.lo g e; omega), h.lo⟩
  | bad he h => exact .bad he ⟨(hb.block b hbB).trans h.hp, h.rv.belowb hb (fun g e => by have := h.lo g e; omega), h.lo⟩

/-- A value read by the model. -/
def MRd (w : World) (b D : Nat) (q : V × RS) (en : Ending) (w' : World) : Prop :=
  ∃ vb vl, en = .returned (q.1.val vb vl) ∧ Mst w' b D q.2 ∧ BStep b w w' ∧ Rv w' vb q.1.b.length (q.1.b.map vB) ∧ Rv w' vl q.1.l.length (q.1.l.map (Value.int .i64))

theorem mdone {w w1 w2 : World} {b D : Nat} {q : V × RS} {vb vl : Value} (hbw : b < w.heap.size) (hD : D ≤ b) (hB : BStep b w w1) (T1 : Mst w1 b D q.2) (hb : Below w.heap.size w1 w2)
    (r1 : Rv w2 vb q.1.b.length (q.1.b.map vB)) (r2 : Rv w2 vl q.1.l.length (q.1.l.map (Value.int .i64))) (n1 : vb.ownBlock ≠ some w.heap.size) (n2 : vl.ownBlock ≠ some w.heap.size) (c0 c1 c2 c3 c4 : Value) :
    MRd w b D q (.returned (q.1.val vb vl)) (fiveV w2 w.heap.size c0 c1 c2 c3 c4) := by
  have hb2 := fiveV_below hb (Nat.le_refl _) c0 c1 c2 c3 c4
  have hS := fiveV_bstep w2 w.heap.size c0 c1 c2 c3 c4
  exact ⟨vb, vl, rfl, T1.belowb hb2 hbw hD, hB.later hb2, r1.bstep hS n1, r2.bstep hS n2⟩

set_option maxHeartbeats 4000000 in
theorem mread_any (b D : Nat) (hD : D ≤ b) (s : RS) (k : Int) (w : World) (hR : Mst w b D s) (hl : left s ≤ 1000000) :
    Calls Try.prog 24 #[.pointer (some ⟨b, 0, none⟩), .int .i64 k] w (MRd w b D (rdV k s)) := by
  have hbl := hR.lt
  have h2 := hR.later (twoV_below w k)
  have A0 := twoV_a w k
  have C0 := twoV_c w k
  by_cases h0 : k = 0
  · subst h0
    go_enter Try.func24, Try.ntmps24
    go_wp2_with fail
    refine (muint_any b D hD s (twoV w 0) h2).mono ?_
    rintro e w1 ⟨rfl, T1, S1⟩
    have hz := twoV_size w (0)
    have S0 : BStep b w w1 := (BStep.of_below (twoV_below w (0))).trans S1
    have A1 := A0.bstep S1 (by omega)
    have C1 := C0.bstep S1 (by omega)
    have f1 := C1.fr 1
    have g0 := C1.k0
    have g1 := C1.k1
    have g2 := C1.k2
    have g3 := C1.k3
    have g4 := C1.k4
    have e0 := A1.k0
    have e1 := A1.k1
    have e2 := A1.k2
    have e3 := A1.k3
    have e4 := A1.k4
    have fa0 := A1.fr 0
    have fa1 := A1.fr 1
    have fa2 := A1.fr 2
    have fa3 := A1.fr 3
    have fa4 := A1.fr 4
    go_wp2_with fail
    have hb1 : Below w.heap.size w1 (w1.setCell ⟨w.heap.size + 1, 1, none⟩ (.int .u64 ((rdU s).1 : Int))) := (Below.refl _ w1).setCell (p := ⟨w.heap.size + 1, 1, none⟩) (by show w.heap.size ≤ w.heap.size + 1; omega) _
    have A2 : Box5 (w1.setCell ⟨w.heap.size + 1, 1, none⟩ (.int .u64 ((rdU s).1 : Int))) w.heap.size (.int .i64 0) (.int .u64 0) (.int .i64 0) (.slice none 0 0) (.slice none 0 0) := A1.kept (Below.heap_setCell _ _ _ _ (by show w.heap.size ≠ w.heap.size + 1; omega))
    refine bodyPost_ret (results_val rfl _ rfl (fiveV_box A2 _ _ _ _ _)) rfl ?_
    exact mdone hbl hD S0 T1 hb1 (Rv.nil _) (Rv.nil _) (by simp [Value.ownBlock]) (by simp [Value.ownBlock]) _ _ _ _ _
  · have q0 : (k == 0) = false := beq_eq_false_iff_ne.2 h0
    by_cases h1 : k = 1
    · subst h1
      go_enter Try.func24, Try.ntmps24
      go_wp2_with fail
      refine (mint_any b D hD s (twoV w 1) h2).mono ?_
      rintro e w1 ⟨rfl, T1, S1⟩
      have hz := twoV_size w (1)
      have S0 : BStep b w w1 := (BStep.of_below (twoV_below w (1))).trans S1
      have A1 := A0.bstep S1 (by omega)
      have C1 := C0.bstep S1 (by omega)
      have f1 := C1.fr 2
      have g0 := C1.k0
      have g1 := C1.k1
      have g2 := C1.k2
      have g3 := C1.k3
      have g4 := C1.k4
      have e0 := A1.k0
      have e1 := A1.k1
      have e2 := A1.k2
      have e3 := A1.k3
      have e4 := A1.k4
      have fa0 := A1.fr 0
      have fa1 := A1.fr 1
      have fa2 := A1.fr 2
      have fa3 := A1.fr 3
      have fa4 := A1.fr 4
      go_wp2_with fail
      have hb1 : Below w.heap.size w1 (w1.setCell ⟨w.heap.size + 1, 2, none⟩ (.int .i64 (rdI s).1)) := (Below.refl _ w1).setCell (p := ⟨w.heap.size + 1, 2, none⟩) (by show w.heap.size ≤ w.heap.size + 1; omega) _
      have A2 : Box5 (w1.setCell ⟨w.heap.size + 1, 2, none⟩ (.int .i64 (rdI s).1)) w.heap.size (.int .i64 0) (.int .u64 0) (.int .i64 0) (.slice none 0 0) (.slice none 0 0) := A1.kept (Below.heap_setCell _ _ _ _ (by show w.heap.size ≠ w.heap.size + 1; omega))
      refine bodyPost_ret (results_val rfl _ rfl (fiveV_box A2 _ _ _ _ _)) rfl ?_
      exact mdone hbl hD S0 T1 hb1 (Rv.nil _) (Rv.nil _) (by simp [Value.ownBlock]) (by simp [Value.ownBlock]) _ _ _ _ _
    · have q1 : (k == 1) = false := beq_eq_false_iff_ne.2 h1
      by_cases h2' : k = 2
      · subst h2'
        have hcall := mbool_any b D hD s (twoV w 2) h2
        have hq : rdV 2 s = (⟨2, 0, if (rdB s).1 then 1 else 0, [], []⟩, (rdB s).2) := rfl
        rw [hq]
        generalize rdB s = r at *
        obtain ⟨t, s'⟩ := r
        cases t
        · go_enter Try.func24, Try.ntmps24
          go_wp2_with fail
          refine (hcall).mono ?_
          rintro e w1 ⟨rfl, T1, S1⟩
          have hz := twoV_size w (2)
          have S0 : BStep b w w1 := (BStep.of_below (twoV_below w (2))).trans S1
          have A1 := A0.bstep S1 (by omega)
          have C1 := C0.bstep S1 (by omega)
          have g0 := C1.k0
          have g1 := C1.k1
          have g2 := C1.k2
          have g3 := C1.k3
          have g4 := C1.k4
          have e0 := A1.k0
          have e1 := A1.k1
          have e2 := A1.k2
          have e3 := A1.k3
          have e4 := A1.k4
          have fa0 := A1.fr 0
          have fa1 := A1.fr 1
          have fa2 := A1.fr 2
          have fa3 := A1.fr 3
          have fa4 := A1.fr 4
          go_wp2_with fail
          have hb1 : Below w.heap.size w1 (w1) := Below.refl _ w1
          have A2 : Box5 (w1) w.heap.size (.int .i64 0) (.int .u64 0) (.int .i64 0) (.slice none 0 0) (.slice none 0 0) := A1
          refine bodyPost_ret (results_val rfl _ rfl (fiveV_box A2 _ _ _ _ _)) rfl ?_
          exact mdone hbl hD S0 T1 hb1 (Rv.nil _) (Rv.nil _) (by simp [Value.ownBlock]) (by simp [Value.ownBlock]) _ _ _ _ _
        · go_enter Try.func24, Try.ntmps24
          go_wp2_with fail
          refine (hcall).mono ?_
          rintro e w1 ⟨rfl, T1, S1⟩
          have hz := twoV_size w (2)
          have S0 : BStep b w w1 := (BStep.of_below (twoV_below w (2))).trans S1
          have A1 := A0.bstep S1 (by omega)
          have C1 := C0.bstep S1 (by omega)
          have f1 := C1.fr 2
          have g0 := C1.k0
          have g1 := C1.k1
          have g2 := C1.k2
          have g3 := C1.k3
          have g4 := C1.k4
          have e0 := A1.k0
          have e1 := A1.k1
          have e2 := A1.k2
          have e3 := A1.k3
          have e4 := A1.k4
          have fa0 := A1.fr 0
          have fa1 := A1.fr 1
          have fa2 := A1.fr 2
          have fa3 := A1.fr 3
          have fa4 := A1.fr 4
          go_wp2_with fail
          have hb1 : Below w.heap.size w1 (w1.setCell ⟨w.heap.size + 1, 2, none⟩ (.int .i64 1)) := (Below.refl _ w1).setCell (p := ⟨w.heap.size + 1, 2, none⟩) (by show w.heap.size ≤ w.heap.size + 1; omega) _
          have A2 : Box5 (w1.setCell ⟨w.heap.size + 1, 2, none⟩ (.int .i64 1)) w.heap.size (.int .i64 0) (.int .u64 0) (.int .i64 0) (.slice none 0 0) (.slice none 0 0) := A1.kept (Below.heap_setCell _ _ _ _ (by show w.heap.size ≠ w.heap.size + 1; omega))
          refine bodyPost_ret (results_val rfl _ rfl (fiveV_box A2 _ _ _ _ _)) rfl ?_
          exact mdone hbl hD S0 T1 hb1 (Rv.nil _) (Rv.nil _) (by simp [Value.ownBlock]) (by simp [Value.ownBlock]) _ _ _ _ _
      · have q2 : (k == 2) = false := beq_eq_false_iff_ne.2 h2'
        by_cases h3 : k = 3
        · subst h3
          go_enter Try.func24, Try.ntmps24
          go_wp2_with fail
          refine (mraw_any b D hD s (twoV w 3) h2).mono ?_
          rintro e w1 ⟨v1, rfl, R1, L1, T1, S1⟩
          obtain ⟨a1, c1, hv1, _, _⟩ := R1.opened
          subst hv1
          have hD1 : D < w.heap.size := by omega
          have hz := twoV_size w (3)
          have S0 : BStep b w w1 := (BStep.of_below (twoV_below w (3))).trans S1
          have A1 := A0.bstep S1 (by omega)
          have C1 := C0.bstep S1 (by omega)
          have f1 := C1.fr 3
          have g0 := C1.k0
          have g1 := C1.k1
          have g2 := C1.k2
          have g3 := C1.k3
          have g4 := C1.k4
          have e0 := A1.k0
          have e1 := A1.k1
          have e2 := A1.k2
          have e3 := A1.k3
          have e4 := A1.k4
          have fa0 := A1.fr 0
          have fa1 := A1.fr 1
          have fa2 := A1.fr 2
          have fa3 := A1.fr 3
          have fa4 := A1.fr 4
          go_wp2_with fail
          have hb1 : Below w.heap.size w1 (w1.setCell ⟨w.heap.size + 1, 3, none⟩ (.slice a1 (rdRaw s).1.length c1)) := (Below.refl _ w1).setCell (p := ⟨w.heap.size + 1, 3, none⟩) (by show w.heap.size ≤ w.heap.size + 1; omega) _
          have A2 : Box5 (w1.setCell ⟨w.heap.size + 1, 3, none⟩ (.slice a1 (rdRaw s).1.length c1)) w.heap.size (.int .i64 0) (.int .u64 0) (.int .i64 0) (.slice none 0 0) (.slice none 0 0) := A1.kept (Below.heap_setCell _ _ _ _ (by show w.heap.size ≠ w.heap.size + 1; omega))
          refine bodyPost_ret (results_val rfl _ rfl (fiveV_box A2 _ _ _ _ _)) rfl ?_
          exact mdone hbl hD S0 T1 hb1 (R1.belowb hb1 (fun g e => by have := L1 g e; omega)) (Rv.nil _) (fun e => by have := L1 _ e; omega) (by simp [Value.ownBlock]) _ _ _ _ _
        · have q3 : (k == 3) = false := beq_eq_false_iff_ne.2 h3
          by_cases h4 : k = 4
          · subst h4
            go_enter Try.func24, Try.ntmps24
            go_wp2_with fail
            refine (mraw_any b D hD s (twoV w 4) h2).mono ?_
            rintro e w1 ⟨v1, rfl, R1, L1, T1, S1⟩
            obtain ⟨a1, c1, hv1, _, _⟩ := R1.opened
            subst hv1
            have hD1 : D < w.heap.size := by omega
            have hz := twoV_size w (4)
            have S0 : BStep b w w1 := (BStep.of_below (twoV_below w (4))).trans S1
            have A1 := A0.bstep S1 (by omega)
            have C1 := C0.bstep S1 (by omega)
            have f1 := C1.fr 3
            have g0 := C1.k0
            have g1 := C1.k1
            have g2 := C1.k2
            have g3 := C1.k3
            have g4 := C1.k4
            have e0 := A1.k0
            have e1 := A1.k1
            have e2 := A1.k2
            have e3 := A1.k3
            have e4 := A1.k4
            have fa0 := A1.fr 0
            have fa1 := A1.fr 1
            have fa2 := A1.fr 2
            have fa3 := A1.fr 3
            have fa4 := A1.fr 4
            go_wp2_with fail
            have hb1 : Below w.heap.size w1 (w1.setCell ⟨w.heap.size + 1, 3, none⟩ (.slice a1 (rdRaw s).1.length c1)) := (Below.refl _ w1).setCell (p := ⟨w.heap.size + 1, 3, none⟩) (by show w.heap.size ≤ w.heap.size + 1; omega) _
            have A2 : Box5 (w1.setCell ⟨w.heap.size + 1, 3, none⟩ (.slice a1 (rdRaw s).1.length c1)) w.heap.size (.int .i64 0) (.int .u64 0) (.int .i64 0) (.slice none 0 0) (.slice none 0 0) := A1.kept (Below.heap_setCell _ _ _ _ (by show w.heap.size ≠ w.heap.size + 1; omega))
            refine bodyPost_ret (results_val rfl _ rfl (fiveV_box A2 _ _ _ _ _)) rfl ?_
            exact mdone hbl hD S0 T1 hb1 (R1.belowb hb1 (fun g e => by have := L1 g e; omega)) (Rv.nil _) (fun e => by have := L1 _ e; omega) (by simp [Value.ownBlock]) _ _ _ _ _
          · have q4 : (k == 4) = false := beq_eq_false_iff_ne.2 h4
            have hq : rdV k s = (⟨k, 0, 0, [], (rdInts s).1⟩, (rdInts s).2) := by simp [rdV, h0, h1, h2', h3, h4]
            rw [hq]
            go_enter Try.func24, Try.ntmps24
            go_wp2_with fail
            refine (mints_any b D hD s (twoV w k) h2 hl).mono ?_
            rintro e w1 ⟨v1, rfl, O1, T1, S1⟩
            obtain ⟨k1, a1, c1, rfl⟩ := own_shape O1
            have hz := twoV_size w (k)
            have S0 : BStep b w w1 := (BStep.of_below (twoV_below w (k))).trans S1
            have A1 := A0.bstep S1 (by omega)
            have C1 := C0.bstep S1 (by omega)
            have f1 := C1.fr 4
            have g0 := C1.k0
            have g1 := C1.k1
            have g2 := C1.k2
            have g3 := C1.k3
            have g4 := C1.k4
            have e0 := A1.k0
            have e1 := A1.k1
            have e2 := A1.k2
            have e3 := A1.k3
            have e4 := A1.k4
            have fa0 := A1.fr 0
            have fa1 := A1.fr 1
            have fa2 := A1.fr 2
            have fa3 := A1.fr 3
            have fa4 := A1.fr 4
            go_wp2_with fail
            have hb1 : Below w.heap.size w1 (w1.setCell ⟨w.heap.size + 1, 4, none⟩ (.slice a1 k1 c1)) := (Below.refl _ w1).setCell (p := ⟨w.heap.size + 1, 4, none⟩) (by show w.heap.size ≤ w.heap.size + 1; omega) _
            have A2 : Box5 (w1.setCell ⟨w.heap.size + 1, 4, none⟩ (.slice a1 k1 c1)) w.heap.size (.int .i64 0) (.int .u64 0) (.int .i64 0) (.slice none 0 0) (.slice none 0 0) := A1.kept (Below.heap_setCell _ _ _ _ (by show w.heap.size ≠ w.heap.size + 1; omega))
            refine bodyPost_ret (results_val rfl _ rfl (fiveV_box A2 _ _ _ _ _)) rfl ?_
            exact mdone hbl hD S0 T1 hb1 (Rv.nil _) ((Rv.of_own O1).bstep ((BStep.refl (w.heap.size + 1) w1).set 4 _) (fun e => by have := (O1.lt _ e).1; omega)) (by simp [Value.ownBlock]) (fun e => by have := (O1.lt _ e).1; omega) _ _ _ _ _
end Go.Proofs.Ytofgcoapbocneaa
