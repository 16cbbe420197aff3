/- The model's Made walked. -/
import Derived.Test.YtadhghikanjkeaaPrtL
namespace Go.Proofs.Ytadhghikanjkeaa
open Go.RowKit

theorem pick_at (al : Option Addr) (cl : Nat) (l : List Int) (i m : Nat) (j mi : Int) (hj : j = (i : Int)) (hmi : mi = (m : Int)) (w : World) (hl : Rv w (.slice al l.length cl) l.length (l.map (Value.int .i64))) (h64 : I64 l) (hm : 1 ≤ m) (hm2 : m ≤ 9223372036854775807) (hi : i ≤ 9223372036854775807) :
    Calls Try.prog 32 #[.slice al l.length cl, .int .i64 j, .int .i64 mi] w fun e w' => e = .returned (.int .i64 (pickM l i m)) ∧ w = w' := by
  subst hj hmi
  exact pick_any al cl l i m w hl h64 hm hm2 hi
def MadePost (w : World) (m : Msg) (en : Ending) (w' : World) : Prop := ∃ x, en = .returned x ∧ MsgAt w w' m x ∧ Below w.heap.size w w'
theorem range_snoc {α : Type} (f : Nat → α) (i : Nat) : (List.range (i + 1)).map f = (List.range i).map f ++ [f i] := by
  rw [List.range_succ, List.map_append]
  rfl

theorem MaSt.bodyN {w W : World} {x1 x2 x3 x4 : Int} {bv fv : Value} {bs : List UInt8} {l : List F3} (h : MaSt w W x1 x2 x3 x4 bv fv bs l) {n : Nat} (hn : bs.length = n) : W.ownsRow (w.heap.size + 2) 5 1 bv n (bs.map vB) := by rw [← hn]; exact h.body
theorem MaSt.ownN {w W : World} {x1 x2 x3 x4 : Int} {bv fv : Value} {bs : List UInt8} {l : List F3} (h : MaSt w W x1 x2 x3 x4 bv fv bs l) {n : Nat} (hn : l.length = n) : W.ownsRow (w.heap.size + 2) 79 3 fv n (fcells l) := by rw [← hn]; exact h.own
theorem cellGrown {w w' : World} {p : Addr} {u : Value} {row : Option Nat} (hg : w.grownBy w' row) (hp : row ≠ some p.block) (h : w.cell? p = some u) : w'.cell? p = some u := by
  have hlt := World.block_lt_of_cell? w _ h
  unfold World.cell? at h ⊢
  rw [hg.block p.block hlt (fun e => hp e.symm)]
  exact h
theorem frozenGrown {w w' : World} {p : Addr} {u : Value} {row : Option Nat} (hg : w.grownBy w' row) (hp : row ≠ some p.block) (hc : w.cell? p = some u) (h : w.frozen? p = false) : w'.frozen? p = false := by
  have hlt := World.block_lt_of_cell? w _ hc
  unfold World.frozen? at h ⊢
  rw [hg.block p.block hlt (fun e => hp e.symm)]
  exact h

set_option maxRecDepth 20000 in
set_option maxHeartbeats 2000000 in
theorem made_any (al : Option Addr) (cl : Nat) (l : List Int) (a : Nat) (w : World) (hl : Rv w (.slice al l.length cl) l.length (l.map (Value.int .i64))) (h64 : I64 l) (ha : a ≤ 1000) :
    Calls Try.prog 8 #[.slice al l.length cl, .int .i64 (a : Int)] w (MadePost w (madeM l a)) := by
  obtain ⟨nb, hnb⟩ : ∃ nb : Nat, pickM l (a + 4) 12 = (nb : Int) := ⟨(pickM l (a + 4) 12).toNat, by have := pickM_lo l (a + 4) 12 (by omega); omega⟩
  obtain ⟨nf, hnf⟩ : ∃ nf : Nat, pickM l (a + 5) 4 = (nf : Int) := ⟨(pickM l (a + 5) 4).toNat, by have := pickM_lo l (a + 5) 4 (by omega); omega⟩
  have hnb12 : nb < 12 := by have := pickM_hi l (a + 4) 12 (by omega); omega
  have hnf4 : nf < 4 := by have := pickM_hi l (a + 5) 4 (by omega); omega
  have q40 := pickM_lo l (a + 2) 40 (by omega)
  have q41 := pickM_hi l (a + 2) 40 (by omega)
  obtain ⟨x1, hx1⟩ : ∃ x, pickM l a 7 = x := ⟨_, rfl⟩
  obtain ⟨x2, hx2⟩ : ∃ x, pickM l (a + 1) 1000 = x := ⟨_, rfl⟩
  obtain ⟨x3, hx3⟩ : ∃ x, pickM l (a + 2) 40 = x := ⟨_, rfl⟩
  obtain ⟨x4, hx4⟩ : ∃ x, pickM l (a + 3) 23 = x := ⟨_, rfl⟩
  have hmm : madeM l a = ⟨x1, x2, x3 - 1, x4, (List.range nb).map (madeB l a), (List.range nf).map (madeF l a)⟩ := by
    unfold madeM
    rw [hx1, hx2, hx3, hx4, hnb, hnf, Int.toNat_natCast, Int.toNat_natCast]
  rw [hx3] at q40 q41
  have HM := Lib.hid hmm
  have HNB := Lib.hid hnb
  have HNF := Lib.hid hnf
  have HX1 := Lib.hid hx1
  have HX2 := Lib.hid hx2
  have HX3 := Lib.hid hx3
  have HX4 := Lib.hid hx4
  clear hmm hnb hnf hx1 hx2 hx3 hx4
  go_enter Try.func8, Try.ntmps8
  go_wp2_with fail
  refine (pick_at al cl l a 7 _ _ rfl rfl _ (hl.below ((Below.refl _ _).alloc (Nat.le_refl _) _)) h64 (by omega) (by omega) (by omega)).mono ?_
  rintro e w1 ⟨rfl, rfl⟩
  rw [HX1.out]
  go_wp2_with fail
  refine (pick_at al cl l (a + 1) 1000 _ _ (by omega) rfl _ (hl.below ((Below.refl _ _).alloc (Nat.le_refl _) _)) h64 (by omega) (by omega) (by omega)).mono ?_
  rintro e w1 ⟨rfl, rfl⟩
  rw [HX2.out]
  go_wp2_with fail
  refine (pick_at al cl l (a + 2) 40 _ _ (by omega) rfl _ (hl.below ((Below.refl _ _).alloc (Nat.le_refl _) _)) h64 (by omega) (by omega) (by omega)).mono ?_
  rintro e w1 ⟨rfl, rfl⟩
  rw [HX3.out]
  go_wp2_with fail
  refine (pick_at al cl l (a + 3) 23 _ _ (by omega) rfl _ (hl.below ((Below.refl _ _).alloc (Nat.le_refl _) _)) h64 (by omega) (by omega) (by omega)).mono ?_
  rintro e w1 ⟨rfl, rfl⟩
  rw [HX4.out]
  go_wp2_with fail
  have E0 : MaSt w ((w.alloc (msgR 0 0 0 0 (.slice none 0 0) (.slice none 0 0))).alloc (msgR x1 x2 (x3 - 1) x4 (.slice none 0 0) (.slice none 0 0))) x1 x2 (x3 - 1) x4 (.slice none 0 0) (.slice none 0 0) [] [] :=
    ⟨(Below.heap_alloc _ _ _ (by simp)).trans (World.alloc_heap_new w _), by have := World.alloc_heap_new (w.alloc (msgR 0 0 0 0 (.slice none 0 0) (.slice none 0 0))) (msgR x1 x2 (x3 - 1) x4 (.slice none 0 0) (.slice none 0 0)); rwa [World.size_alloc] at this, World.ownsRow_nil _ _ _ _, World.ownsRow_nil _ _ _ _, (fun g h => by cases h), ((Below.refl _ w).alloc (Nat.le_refl _) _).alloc (by simp) _⟩
  unfold msgR at E0
  go_loopw [6] (fun iv wr => ∃ (i : Nat) (bv : Value), iv = .int .i64 (i : Int) ∧ i ≤ nb ∧ MaSt w wr x1 x2 (x3 - 1) x4 bv (.slice none 0 0) ((List.range i).map (madeB l a)) []) (fun iv _ => nb - (intOf iv).toNat)
  case atStart => exact ⟨0, _, by first | rfl | trivial, by omega, E0⟩
  case round =>
    obtain ⟨i, bv, rfl, hi, E⟩ := hrel
    go_wp2_with fail
    refine (pick_at al cl l (a + 4) 12 _ _ (by omega) rfl _ (hl.below E.bel) h64 (by omega) (by omega) (by omega)).mono ?_
    rintro e u0 ⟨rfl, rfl⟩
    rw [HNB.out]
    by_cases hlt : i < nb
    · have q0 := E.drew.c4
      have hfz := E.drew.fz 4
      have hmE := E.mlt
      have hlE := E.body.lt
      obtain ⟨y, hy⟩ : ∃ y, pickM l (a + i) 256 = y := ⟨_, rfl⟩
      have hy0 := pickM_lo l (a + i) 256 (by omega)
      have hy1 := pickM_hi l (a + i) 256 (by omega)
      rw [hy] at hy0 hy1
      have HY := Lib.hid hy
      have hwai : IntKind.i64.wrap ((a : Int) + (i : Int)) = (a : Int) + (i : Int) := by rw [IntKind.wrap_i64]; omega
      clear hy
      go_wp2_with fail
      go_region_law (first
        | (go_simp; go_at_call 32; refine (pick_at al cl l (a + i) 256 _ _ (by omega) rfl _ (hl.below E.drew.bel) h64 (by omega) (by omega) (by omega)).mono ?_; rintro e u1 ⟨rfl, rfl⟩; rw [HY.out]; have q1 := (E.drew.alloc (.cells #[.int .u8 (IntKind.u8.wrap y)] 5)).c4; have q1b := (E.alloc (.cells #[.int .u8 (IntKind.u8.wrap y)] 5)).drew.c4
           dsimp only)
        | (refine step_appN rfl _ _ (by rfl) Try.elB (w.heap.size + 2) bv i (((List.range i).map (madeB l a)).map vB) (by rfl) ((E.drew.alloc _).bodyN (by simp)) _ 1 [_] (by rfl) (Rv.one _ _ _) rfl (ones1 _ rfl) (by omega) (Nat.succ_le_of_lt (E.drew.alloc _).mlt) ?_; intro v4 u4 hown4 hg4 hs4
           obtain ⟨a4, c4, rfl, _, _⟩ := (Rv.of_own hown4).opened
           have hc4 := cellGrown hg4 (fun e => absurd (hlE _ e).1 (by simp)) (E.drew.alloc _).c4
           have hf4 := frozenGrown hg4 (fun e => absurd (hlE _ e).1 (by simp)) (E.drew.alloc _).c4 ((E.drew.alloc _).fz 4)))
      all_goals
        have E2 := (E.drew.alloc (.cells #[.int .u8 (IntKind.u8.wrap y)] 5)).pushB (bs' := (List.range (i + 1)).map (madeB l a)) hg4 hs4 (by
          have hv : vB (madeB l a i) = .int .u8 (IntKind.u8.wrap y) := by
            have hyy := HY.out
            unfold vB madeB
            rw [UInt8.toNat_ofNat', IntKind.wrap_u8, hyy]
            congr 1
            omega
          rw [range_snoc, List.length_append, List.map_append, List.map_singleton, hv]
          simpa using hown4)
        go_wp2_with fail
        go_roundw
        case rel => exact ⟨i + 1, _, by go_num, by omega, E2⟩
        case measure => simp [intOf]; omega
    · obtain rfl : nb = i := by omega
      clear E0
      go_wp2_with fail
      go_loopw [7] (fun iv wr => ∃ (j : Nat) (fv : Value), iv = .int .i64 (j : Int) ∧ j ≤ nf ∧ MaSt w wr x1 x2 (x3 - 1) x4 bv fv ((List.range nb).map (madeB l a)) ((List.range j).map (madeF l a))) (fun iv _ => nf - (intOf iv).toNat)
      case atStart => exact ⟨0, _, by first | rfl | trivial, by omega, E⟩
      case round =>
        clear E
        obtain ⟨j, fv, rfl, hj, E⟩ := hrel
        go_wp2_with fail
        refine (pick_at al cl l (a + 5) 4 _ _ (by omega) rfl _ (hl.below E.bel) h64 (by omega) (by omega) (by omega)).mono ?_
        rintro e u0 ⟨rfl, rfl⟩
        rw [HNF.out]
        by_cases hlt2 : j < nf
        · have q0 := E.c5
          have q0d := E.drew.c5
          have hfz := E.drew.fz 5
          have hmE := E.mlt
          have hlE := E.own.lt
          obtain ⟨y1, hy1⟩ : ∃ y, pickM l (a + j) 500 = y := ⟨_, rfl⟩
          obtain ⟨y2, hy2⟩ : ∃ y, pickM l (a + j + 1) 1073741824 = y := ⟨_, rfl⟩
          obtain ⟨y3, hy3⟩ : ∃ y, pickM l (a + j + 2) 100 = y := ⟨_, rfl⟩
          have HF := Lib.hid (show madeF l a j = ⟨y1, y2, y3⟩ by unfold madeF; rw [hy1, hy2, hy3])
          have HY1 := Lib.hid hy1
          have HY2 := Lib.hid hy2
          have HY3 := Lib.hid hy3
          clear hy1 hy2 hy3
          have hw1 : IntKind.i64.wrap ((a : Int) + (j : Int)) = (a : Int) + (j : Int) := by rw [IntKind.wrap_i64]; omega
          have hw2 : IntKind.i64.wrap ((a : Int) + (j : Int) + 1) = (a : Int) + (j : Int) + 1 := by rw [IntKind.wrap_i64]; omega
          have hw3 : IntKind.i64.wrap ((a : Int) + (j : Int) + 2) = (a : Int) + (j : Int) + 2 := by rw [IntKind.wrap_i64]; omega
          have q1 := (E.drew.alloc (.cells #[.int .i64 y1, .int .i64 y2, .int .i64 y3] 79)).c5
          have q1b := (E.alloc (.cells #[.int .i64 y1, .int .i64 y2, .int .i64 y3] 79)).drew.c5
          go_wp2_with fail
          go_region_law (first
            | (go_simp; first
                | (go_at_call_of 32 (Value.int IntKind.i64 500); refine (pick_at al cl l (a + j) 500 _ 500 (by omega) rfl _ (hl.below E.drew.bel) h64 (by omega) (by omega) (by omega)).mono ?_; rintro e u1 ⟨rfl, rfl⟩; rw [HY1.out])
                | (go_at_call_of 32 (Value.int IntKind.i64 1073741824); refine (pick_at al cl l (a + j + 1) 1073741824 _ 1073741824 (by omega) rfl _ (hl.below E.drew.bel) h64 (by omega) (by omega) (by omega)).mono ?_; rintro e u1 ⟨rfl, rfl⟩; rw [HY2.out])
                | (go_at_call_of 32 (Value.int IntKind.i64 100); refine (pick_at al cl l (a + j + 2) 100 _ 100 (by omega) rfl _ (hl.below E.drew.bel) h64 (by omega) (by omega) (by omega)).mono ?_; rintro e u1 ⟨rfl, rfl⟩; rw [HY3.out])
               dsimp only)
            | (refine step_appN rfl _ _ (by rfl) Try.elF (w.heap.size + 2) fv j (fcells ((List.range j).map (madeF l a))) (by rfl) ((E.drew.alloc _).ownN (by simp)) _ 1 [.int .i64 y1, .int .i64 y2, .int .i64 y3] (by rfl) (Rv.of_cells (by omega) (by unfold maxLen; omega) (fun i u hu => by rw [← hu]; show World.cell? (wr.alloc (.cells #[.int .i64 y1, .int .i64 y2, .int .i64 y3] 79)) ⟨wr.heap.size, i, none⟩ = _; unfold World.cell?; rw [World.alloc_heap_new]; simp)) rfl (by simp [Value.oneCell']) (by omega) (Nat.succ_le_of_lt (E.drew.alloc _).mlt) ?_; intro v4 u4 hown4 hg4 hs4
               obtain ⟨a4, c4, rfl, _, _⟩ := (Rv.of_own hown4).opened
               have hc4 := cellGrown hg4 (fun e => absurd (hlE _ e).1 (by simp)) (E.drew.alloc _).c5
               have hf4 := frozenGrown hg4 (fun e => absurd (hlE _ e).1 (by simp)) (E.drew.alloc _).c5 ((E.drew.alloc _).fz 5)))
          all_goals
            have E2 := (E.drew.alloc (.cells #[.int .i64 y1, .int .i64 y2, .int .i64 y3] 79)).pushF (l' := (List.range (j + 1)).map (madeF l a)) hg4 hs4 (by
              have e2 : fcells ((List.range (j + 1)).map (madeF l a)) = fcells ((List.range j).map (madeF l a)) ++ [.int .i64 y1, .int .i64 y2, .int .i64 y3] := by
                rw [range_snoc, HF.out]
                simp [fcells, F3.cells]
              rw [e2]
              simpa using hown4)
            go_wp2_with fail
            go_roundw
            case rel => exact ⟨j + 1, _, by go_num, by omega, E2⟩
            case measure => simp [intOf]; omega
        · obtain rfl : nf = j := by omega
          obtain ⟨a5, c5, rfl, _, _⟩ := (Rv.of_own E.body).opened
          obtain ⟨a6, c6, rfl, _, _⟩ := (Rv.of_own E.own).opened
          have lb := E.body.lt
          have lf := E.own.lt
          have rb := Rv.of_own E.body
          have rf := Rv.of_own E.own
          have hbk := E.blk
          have hbl := E.bel
          have hrs := E.res
          unfold msgR at hbk hrs
          have j0 : wr.cell? ⟨w.heap.size + 1, 0, none⟩ = some (.int .i64 x1) := by simp [World.cell?, hbk]
          have j1 : wr.cell? ⟨w.heap.size + 1, 1, none⟩ = some (.int .i64 x2) := by simp [World.cell?, hbk]
          have j2 : wr.cell? ⟨w.heap.size + 1, 2, none⟩ = some (.int .i64 (x3 - 1)) := by simp [World.cell?, hbk]
          have j3 : wr.cell? ⟨w.heap.size + 1, 3, none⟩ = some (.int .i64 x4) := by simp [World.cell?, hbk]
          have j4 : wr.cell? ⟨w.heap.size + 1, 4, none⟩ = some (.slice a5 ((List.range nb).map (madeB l a)).length c5) := by simp [World.cell?, hbk]
          have j5 : wr.cell? ⟨w.heap.size + 1, 5, none⟩ = some (.slice a6 ((List.range nf).map (madeF l a)).length c6) := by simp [World.cell?, hbk]
          have z0 : wr.cell? ⟨w.heap.size, 0, none⟩ = some (.int .i64 0) := by simp [World.cell?, hrs]
          have z1 : wr.cell? ⟨w.heap.size, 1, none⟩ = some (.int .i64 0) := by simp [World.cell?, hrs]
          have z2 : wr.cell? ⟨w.heap.size, 2, none⟩ = some (.int .i64 0) := by simp [World.cell?, hrs]
          have z3 : wr.cell? ⟨w.heap.size, 3, none⟩ = some (.int .i64 0) := by simp [World.cell?, hrs]
          have z4 : wr.cell? ⟨w.heap.size, 4, none⟩ = some (.slice none 0 0) := by simp [World.cell?, hrs]
          have z5 : wr.cell? ⟨w.heap.size, 5, none⟩ = some (.slice none 0 0) := by simp [World.cell?, hrs]
          have zf : ∀ j, wr.frozen? ⟨w.heap.size, j, none⟩ = false := fun j => by simp [World.frozen?, hrs]
          have HR := Lib.hid hrs
          clear hbk hrs E
          go_wp2_with fail
          refine bodyPost_ret (results_cell_row rfl _ _ w.heap.size _ _ _ _ rfl (set6 HR.out _ _ _ _ _ _) rfl rfl rfl) rfl ?_
          unfold MadePost
          rw [HM.out]
          refine ⟨_, rfl, ⟨a5, a6, c5, c6, ?_, ⟨rvFar rb (fun k hk => far6 hk _ _ _ _ _ _) (fun e => ?_), rvFar rf (fun k hk => far6 hk _ _ _ _ _ _) (fun e => ?_)⟩, fun g hg => ?_, fun g hg => ?_⟩, bel6 hbl (Nat.le_refl _) _ _ _ _ _ _⟩
          · simp [msgV]
          · have := (lb _ e).1; omega
          · have := (lf _ e).1; omega
          · have := lb g hg; simp only [World.size_setCell]; omega
          · have := lf g hg; simp only [World.size_setCell]; omega
end Go.Proofs.Ytadhghikanjkeaa
