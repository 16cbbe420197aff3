/- Package proto: decodeCore. -/
import Derived.Test.YtadhghikanjkeaaPrtH
namespace Go.Proofs.Ytadhghikanjkeaa
open Go.RowKit

/-- A value that reads as the message m, in memory that is new. -/
def MsgAt (w w' : World) (m : Msg) (x : Value) : Prop :=
  ∃ ab af cb cf, x = msgV m ab af cb cf ∧ Cells6 w' m ab af cb cf ∧ (∀ g, (Value.slice ab m.body.length cb).ownBlock = some g → w.heap.size ≤ g ∧ g < w'.heap.size) ∧ (∀ g, (Value.slice af m.fnd.length cf).ownBlock = some g → w.heap.size ≤ g ∧ g < w'.heap.size)
theorem MsgAt.zero (w w' : World) : MsgAt w w' Msg.zero (.agg #[.int .i64 0, .int .i64 0, .int .i64 0, .int .i64 0, .slice none 0 0, .slice none 0 0]) :=
  ⟨none, none, 0, 0, rfl, ⟨Rv.nil _, Rv.nil _⟩, (fun g h => by cases h), (fun g h => by cases h)⟩
/-- decodeCore's answer. -/
def decD (c : List UInt8) : Msg × Int := match decC c with | none => (Msg.zero, 2) | some m => (m, 0)
def DcPost (w : World) (c : List UInt8) (en : Ending) (w' : World) : Prop :=
  ∃ x, en = .returned (.tuple #[x, .int .i64 (decD c).2]) ∧ MsgAt w w' (decD c).1 x ∧ Below w.heap.size w w'
theorem set6 {w : World} {b : Nat} {T : TypeId} {z0 z1 z2 z3 z4 z5 : Value} (hb : w.heap[b]? = some (.cells #[z0, z1, z2, z3, z4, z5] T (0, 0))) (c0 c1 c2 c3 c4 c5 : Value) :
    ((((((w.setCell ⟨b, 0, none⟩ c0).setCell ⟨b, 1, none⟩ c1).setCell ⟨b, 2, none⟩ c2).setCell ⟨b, 3, none⟩ c3).setCell ⟨b, 4, none⟩ c4).setCell ⟨b, 5, none⟩ c5).heap[b]? = some (.cells #[c0, c1, c2, c3, c4, c5] T (0, 0)) := by
  have h := setSame (i := 5) (setSame (i := 4) (setSame (i := 3) (setSame (i := 2) (setSame (i := 1) (setSame (i := 0) hb c0) c1) c2) c3) c4) c5
  simpa using h
theorem bel6 {B : Nat} {w W : World} (h : Below B w W) {b : Nat} (hb : B ≤ b) (c0 c1 c2 c3 c4 c5 : Value) :
    Below B w ((((((W.setCell ⟨b, 0, none⟩ c0).setCell ⟨b, 1, none⟩ c1).setCell ⟨b, 2, none⟩ c2).setCell ⟨b, 3, none⟩ c3).setCell ⟨b, 4, none⟩ c4).setCell ⟨b, 5, none⟩ c5) :=
  (((((h.setCell hb c0).setCell hb c1).setCell hb c2).setCell hb c3).setCell hb c4).setCell hb c5
theorem far6 {W : World} {b k : Nat} (hk : k ≠ b) (c0 c1 c2 c3 c4 c5 : Value) :
    ((((((W.setCell ⟨b, 0, none⟩ c0).setCell ⟨b, 1, none⟩ c1).setCell ⟨b, 2, none⟩ c2).setCell ⟨b, 3, none⟩ c3).setCell ⟨b, 4, none⟩ c4).setCell ⟨b, 5, none⟩ c5).heap[k]? = W.heap[k]? := by
  rw [Below.heap_setCell _ _ _ _ hk, Below.heap_setCell _ _ _ _ hk, Below.heap_setCell _ _ _ _ hk, Below.heap_setCell _ _ _ _ hk, Below.heap_setCell _ _ _ _ hk, Below.heap_setCell _ _ _ _ hk]
theorem rvFar {w w' : World} {v : Value} {n b : Nat} {us : List Value} (h : Rv w v n us) (hb : ∀ k, k ≠ b → w'.heap[k]? = w.heap[k]?) (hv : v.ownBlock ≠ some b) : Rv w' v n us := by
  obtain ⟨ao, cap, rfl, h1, h3, h4, h5⟩ := h
  refine ⟨ao, cap, rfl, h1, h3, h4, ?_⟩
  rcases h5 with h5 | ⟨g, off, rfl, h5⟩
  · exact .inl h5
  · refine .inr ⟨g, off, rfl, fun i u hi => ?_⟩
    have hc := h5 i u hi
    unfold World.cell? at hc ⊢
    rw [hb g (fun e => hv (by rw [← e]; rfl))]
    exact hc
/-- Six cells of a message's block. -/
structure M6 (W : World) (b : Nat) (x1 x2 x3 x4 : Int) (bv fv : Value) : Prop where
  blk : W.heap[b]? = some (msgO x1 x2 x3 x4 bv fv)
section
variable {W : World} {b : Nat} {x1 x2 x3 x4 : Int} {bv fv : Value}
theorem M6.k0 (h : M6 W b x1 x2 x3 x4 bv fv) : W.cell? ⟨b, 0, none⟩ = some (.int .i64 x1) := by have := h.blk; unfold msgO at this; simp [World.cell?, this]
theorem M6.k1 (h : M6 W b x1 x2 x3 x4 bv fv) : W.cell? ⟨b, 1, none⟩ = some (.int .i64 x2) := by have := h.blk; unfold msgO at this; simp [World.cell?, this]
theorem M6.k2 (h : M6 W b x1 x2 x3 x4 bv fv) : W.cell? ⟨b, 2, none⟩ = some (.int .i64 x3) := by have := h.blk; unfold msgO at this; simp [World.cell?, this]
theorem M6.k3 (h : M6 W b x1 x2 x3 x4 bv fv) : W.cell? ⟨b, 3, none⟩ = some (.int .i64 x4) := by have := h.blk; unfold msgO at this; simp [World.cell?, this]
theorem M6.k4 (h : M6 W b x1 x2 x3 x4 bv fv) : W.cell? ⟨b, 4, none⟩ = some bv := by have := h.blk; unfold msgO at this; simp [World.cell?, this]
theorem M6.k5 (h : M6 W b x1 x2 x3 x4 bv fv) : W.cell? ⟨b, 5, none⟩ = some fv := by have := h.blk; unfold msgO at this; simp [World.cell?, this]
theorem M6.fz (h : M6 W b x1 x2 x3 x4 bv fv) (j : Nat) : W.frozen? ⟨b, j, none⟩ = false := by have := h.blk; unfold msgO at this; simp [World.frozen?, this]
end
set_option maxRecDepth 20000 in
set_option maxHeartbeats 4000000 in
theorem decCore_any (ac : Option Addr) (cc : Nat) (c : List UInt8) (w : World) (hc : Rv w (.slice ac c.length cc) c.length (c.map vB)) (hl : c.length ≤ 1048576) :
    Calls Try.prog 42 #[.slice ac c.length cc] w (DcPost w c) := by
  obtain ⟨⟨x1, s1⟩, h1⟩ : ∃ p, rdI (.ok c) = p := ⟨_, rfl⟩
  obtain ⟨⟨x2, s2⟩, h2⟩ : ∃ p, rdI s1 = p := ⟨_, rfl⟩
  obtain ⟨⟨x3, s3⟩, h3⟩ : ∃ p, rdI s2 = p := ⟨_, rfl⟩
  obtain ⟨⟨x4, s4⟩, h4⟩ : ∃ p, rdI s3 = p := ⟨_, rfl⟩
  obtain ⟨⟨bs, s5⟩, h5⟩ : ∃ p, rdRaw s4 = p := ⟨_, rfl⟩
  obtain ⟨⟨n, s6⟩, h6⟩ : ∃ p, rdI s5 = p := ⟨_, rfl⟩
  have hhead : rdHead c = (⟨x1, x2, x3, x4, bs, []⟩, n, s6) := by unfold rdHead; simp only [h1, h2, h3, h4, h5, h6]
  have hdec : decD c = if n < 0 ∨ 1024 < n then (Msg.zero, 2) else if rdEnd (rd3 n.toNat s6).2 = 0 ∧ validM ⟨x1, x2, x3, x4, bs, (rd3 n.toNat s6).1⟩ = true then (⟨x1, x2, x3, x4, bs, (rd3 n.toNat s6).1⟩, 0) else (Msg.zero, 2) := by
    unfold decD decC
    rw [hhead]
    simp only
    split
    · rename_i h
      split at h
      · rename_i h'; rw [if_pos h']
      · rename_i h'
        rw [if_neg h']
        split at h
        · cases h
        · rename_i h2; rw [if_neg h2]
    · rename_i m h
      split at h
      · cases h
      · rename_i h'
        rw [if_neg h']
        split at h
        · rename_i h2; rw [if_pos h2]; cases h; rfl
        · cases h
  have H1 := Lib.hid h1
  have H2 := Lib.hid h2
  have H3 := Lib.hid h3
  have H4 := Lib.hid h4
  have H5 := Lib.hid h5
  have H6 := Lib.hid h6
  have HD := Lib.hid hdec
  clear h1 h2 h3 h4 h5 h6 hdec hhead
  go_enter Try.func42, Try.ntmps42
  go_wp2_with fail
  refine (read_any _ c _ (hc.below ((Below.refl _ _).alloc (Nat.le_refl _) _)) (by omega)).mono ?_
  rintro e w1 ⟨b, v, rfl, hb, hvb, R1, B1⟩
  have A1 : DcA w w1 b v c (.ok c) := ⟨(B1.block _ (by simp)).trans (World.alloc_heap_new w _), R1, fun g hg => (hvb g hg).2, by simp at hb; omega, ((Below.refl _ w).alloc (Nat.le_refl _) _).trans (B1.mono (by simp))⟩
  clear hb hvb R1 B1
  go_wp2_with fail
  refine (rint_eq H1.out A1.rst).mono ?_
  rintro e w2 ⟨rfl, R2, S2⟩
  have A2 := A1.step R2 S2
  clear A1 R2 S2
  go_wp2_with fail
  refine (rint_eq H2.out A2.rst).mono ?_
  rintro e w3 ⟨rfl, R3, S3⟩
  have A3 := A2.step R3 S3
  clear A2 R3 S3
  go_wp2_with fail
  refine (rint_eq H3.out A3.rst).mono ?_
  rintro e w4 ⟨rfl, R4, S4⟩
  have A4 := A3.step R4 S4
  clear A3 R4 S4
  go_wp2_with fail
  refine (rint_eq H4.out A4.rst).mono ?_
  rintro e w5 ⟨rfl, R5, S5⟩
  have A5 := A4.step R5 S5
  clear A4 R5 S5
  go_wp2_with fail
  refine (rraw_any b v c _ _ A5.rst (by omega)).mono ?_
  rintro e w6 ⟨bv, rfl, O6, R6, S6⟩
  rw [H5.out] at O6 R6
  have A6 := A5.step R6 S6
  have hbw := A5.rst.lt
  rw [List.length_map] at O6
  have O6 := own_base O6 (show b + 1 ≤ w5.heap.size by omega)
  have hrv := Rv.of_own O6
  obtain ⟨ab, cb, rfl, _, _⟩ := hrv.opened
  have D0 : DSt w (w6.alloc (msgO x1 x2 x3 x4 (.slice ab bs.length cb) (.slice none 0 0))) b w6.heap.size v c s5 x1 x2 x3 x4 (.slice ab bs.length cb) (.slice none 0 0) bs [] :=
    ⟨A6.step (A6.rst.under ((Below.refl (b + 1) _).alloc (by have := A6.rst.lt; omega) _) (by omega) (fun g hg => by have := A6.vb g hg; omega)) (BStep.of_below ((Below.refl _ _).alloc (Nat.le_refl _) _)),
      World.alloc_heap_new w6 _, O6.alloc _, fun g hg => (O6.lt g hg).2, World.ownsRow_nil _ _ _ _, A6.rst.lt⟩
  clear A5 A6 R6 S6 hbw O6 hrv
  go_wp2_with fail
  refine (rint_eq H6.out D0.A.rst).mono ?_
  rintro e w7 ⟨rfl, R7, S7⟩
  have D1 := D0.call R7 S7
  clear D0 R7 S7
  clear H1 H2 H3 H4 H5 H6
  have hfin : ∀ (W : World) (tmps : Array Value), DcA w W b v c s6 → tmps.getD 2 undef = .pointer (some ⟨w.heap.size, 0, none⟩) → tmps.getD 3 undef = .int .i64 2 → (n < 0 ∨ 1024 < n) → True := fun _ _ _ _ _ _ => trivial
  clear hfin
  by_cases hn : n < 0 ∨ 1024 < n
  · have hr := D1.A.res
    have Z : M6 w7 w.heap.size 0 0 0 0 (.slice none 0 0) (.slice none 0 0) := ⟨hr⟩
    have z0 := Z.k0
    have z1 := Z.k1
    have z2 := Z.k2
    have z3 := Z.k3
    have z4 := Z.k4
    have z5 := Z.k5
    have zf := fun j => Z.fz j
    have hB := D1.A.bel
    clear D1 Z
    have HR := Lib.hid hr
    clear hr
    have hd := HD.out
    rw [if_pos hn] at hd
    have HD2 := Lib.hid hd
    clear hd HD
    rcases hn with hn | hn
    · go_wp2_with fail
      refine bodyPost_ret (results_row_tmp rfl _ _ w.heap.size _ _ _ _ rfl (set6 HR.out _ _ _ _ _ _) rfl rfl rfl) rfl ?_
      unfold DcPost
      rw [HD2.out]
      exact ⟨_, rfl, MsgAt.zero _ _, bel6 hB (Nat.le_refl _) _ _ _ _ _ _⟩
    · have hn0 : ¬ n < 0 := by omega
      go_wp2_with fail
      refine bodyPost_ret (results_row_tmp rfl _ _ w.heap.size _ _ _ _ rfl (set6 HR.out _ _ _ _ _ _) rfl rfl rfl) rfl ?_
      unfold DcPost
      rw [HD2.out]
      exact ⟨_, rfl, MsgAt.zero _ _, bel6 hB (Nat.le_refl _) _ _ _ _ _ _⟩
  · have hn0 : ¬ n < 0 := by omega
    have hn1 : ¬ 1024 < n := by omega
    have hd := HD.out
    rw [if_neg hn] at hd
    clear hn HD
    have HD := Lib.hid hd
    clear hd
    go_wp2_with fail
    obtain ⟨k, rfl⟩ : ∃ k : Nat, n = (k : Int) := ⟨n.toNat, by omega⟩
    rw [Int.toNat_natCast] at HD
    have hk : k ≤ 1024 := by omega
    clear hn0 hn1
    go_loopw [30] (fun iv wr => ∃ (i : Nat) (s : RS) (fv : Value) (l : List F3), iv = .int .i64 (i : Int) ∧ i ≤ k ∧ l.length = i ∧ Hid (rd3 k s6 = (l ++ (rd3 (k - i) s).1, (rd3 (k - i) s).2)) ∧ DSt w wr b w6.heap.size v c s x1 x2 x3 x4 (.slice ab bs.length cb) fv bs l) (fun iv _ => k - (intOf iv).toNat)
    case atStart => exact ⟨0, s6, _, [], by first | rfl | trivial, Nat.zero_le _, rfl, Lib.hid (by simp), D1⟩
    case round =>
      obtain ⟨i, s, fv, l, rfl, hi, rfl, HI, E⟩ := hrel
      by_cases hlt : l.length < k
      · obtain ⟨⟨y1, t1⟩, g1⟩ : ∃ p, rdI s = p := ⟨_, rfl⟩
        obtain ⟨⟨y2, t2⟩, g2⟩ : ∃ p, rdI t1 = p := ⟨_, rfl⟩
        obtain ⟨⟨y3, t3⟩, g3⟩ : ∃ p, rdI t2 = p := ⟨_, rfl⟩
        have HI2 := Lib.hid (rd3_inv hlt HI.out g1 g2 g3)
        have G1 := Lib.hid g1
        have G2 := Lib.hid g2
        have G3 := Lib.hid g3
        clear g1 g2 g3 HI D1 HD
        have q0 := E.c5
        have E0 := E.drew
        have hlE := E.own.lt
        have hmE := E.lt
        have hb0 := E.A.lt
        go_wp2_with fail
        go_region_law (first
          | (refine step_appN rfl _ _ (by rfl) Try.elF (w6.heap.size + 1) fv l.length (fcells l) (by rfl) ((P3.alloc _).own) _ 1 [.int .i64 y1, .int .i64 y2, .int .i64 y3] (by rfl) (Rv.of_cells (by omega) (by unfold maxLen; omega) (fun i u hu => by rw [← hu]; unfold World.cell?; rw [World.alloc_heap_new]; simp)) rfl (by simp [Value.oneCell']) (by omega) (by have := P3.mlt; simp only [World.size_alloc]; omega) ?_; intro v4 u4 hown4 hg4 _
             obtain ⟨a4, c4, rfl, _, _⟩ := (Rv.of_own hown4).opened
             have hc4 : u4.cell? ⟨w6.heap.size, 5, none⟩ = some fv := by
               have := hg4.block w6.heap.size (by have := P3.mlt; simp only [World.size_alloc]; omega) (fun e => by have := (hlE w6.heap.size e.symm).1; omega)
               have h2 := (P3.alloc (.cells #[.int .i64 y1, .int .i64 y2, .int .i64 y3] 79)).c5
               unfold World.cell? at h2 ⊢
               rw [this]
               exact h2
             have hf4 : u4.frozen? ⟨w6.heap.size, 5, none⟩ = false := by
               have := hg4.block w6.heap.size (by have := P3.mlt; simp only [World.size_alloc]; omega) (fun e => by have := (hlE w6.heap.size e.symm).1; omega)
               have h2 := (P3.alloc (.cells #[.int .i64 y1, .int .i64 y2, .int .i64 y3] 79)).f5
               unfold World.frozen? at h2 ⊢
               rw [this]
               exact h2)
          | (go_simp; go_at_call 59; first
              | (refine (rint_eq G3.out P2.A.rst).mono ?_; rintro e u3 ⟨rfl, U3, V3⟩; have P3 := P2.call U3 V3; have q3 := P3.c5; have q3a := (P3.alloc (.cells #[.int .i64 y1, .int .i64 y2, .int .i64 y3] 79)).c5)
              | (refine (rint_eq G2.out P1.A.rst).mono ?_; rintro e u2 ⟨rfl, U2, V2⟩; have P2 := P1.call U2 V2; have q2 := P2.c5)
              | (refine (rint_eq G1.out E0.A.rst).mono ?_; rintro e u1 ⟨rfl, U1, V1⟩; have P1 := E0.call U1 V1; have q1 := P1.c5)
             dsimp only))
        all_goals
          have E2 := (P3.alloc (.cells #[.int .i64 y1, .int .i64 y2, .int .i64 y3] 79)).push (l' := l ++ [⟨y1, y2, y3⟩]) hg4 (by
            have e1 : (l ++ [(⟨y1, y2, y3⟩ : F3)]).length = l.length + 1 := by simp
            have e2 : fcells (l ++ [⟨y1, y2, y3⟩]) = fcells l ++ [.int .i64 y1, .int .i64 y2, .int .i64 y3] := by simp [fcells, F3.cells]
            rw [e1, e2]
            exact hown4)
          go_wp2_with fail
          go_roundw
          case rel => exact ⟨l.length + 1, t3, _, l ++ [⟨y1, y2, y3⟩], by go_num, by omega, by simp, HI2, E2⟩
          case measure => simp [intOf]; omega
      · obtain rfl : k = l.length := by omega
        have hi2 := HI.out
        rw [Nat.sub_self] at hi2
        have hi3 : rd3 l.length s6 = (l, s) := by rw [hi2]; simp [rd3]
        have hd := HD.out
        rw [hi3] at hd
        simp only at hd
        have HD2 := Lib.hid hd
        clear hd hi2 hi3 HI HD D1
        go_wp2_with fail
        refine (rend_any b v c s _ E.A.rst).mono ?_
        rintro e w8 ⟨rfl, nn, rfl⟩
        have D8 := E.later (belD (Below.refl _ wr) nn)
        obtain ⟨af, cf, rfl, _, _⟩ := (Rv.of_own E.own).opened
        clear E
        have hh : ∀ j, (wr.drewN nn).heap.size = j → True := fun _ _ => trivial
        clear hh
        by_cases he : rdEnd s = 0
        · have M : M6 (wr.drewN nn) w6.heap.size x1 x2 x3 x4 (.slice ab bs.length cb) (.slice af l.length cf) := ⟨D8.blk⟩
          rw [he]
          have j0 := M.k0
          have j1 := M.k1
          have j2 := M.k2
          have j3 := M.k3
          have j4 := M.k4
          have j5 := M.k5
          clear M
          have HVA := valid_any ⟨x1, x2, x3, x4, bs, l⟩ ab af cb cf _ ⟨Rv.of_own D8.body, Rv.of_own D8.own⟩
          unfold msgV at HVA
          simp only at HVA
          have HVA := Lib.hid HVA
          go_wp2_with fail
          refine HVA.out.mono ?_
          rintro e w9 ⟨rfl, B9⟩
          have D9 := D8.later B9
          clear D8 B9 j0 j1 j2 j3 j4 j5
          have hr := D9.A.res
          have Z : M6 w9 w.heap.size 0 0 0 0 (.slice none 0 0) (.slice none 0 0) := ⟨hr⟩
          have z0 := Z.k0
          have z1 := Z.k1
          have z2 := Z.k2
          have z3 := Z.k3
          have z4 := Z.k4
          have z5 := Z.k5
          have zf := fun j => Z.fz j
          have hB := D9.A.bel
          have HR := Lib.hid hr
          clear Z hr
          have hd := HD2.out
          cases hv : validM ⟨x1, x2, x3, x4, bs, l⟩
          · rw [if_neg (fun h => by rw [hv] at h; exact Bool.noConfusion h.2)] at hd
            have HD3 := Lib.hid hd
            clear hd hv HD2 D9
            go_wp2_with fail
            refine bodyPost_ret (results_row_tmp rfl _ _ w.heap.size _ _ _ _ rfl (set6 HR.out _ _ _ _ _ _) rfl rfl rfl) rfl ?_
            unfold DcPost
            rw [HD3.out]
            exact ⟨_, rfl, MsgAt.zero _ _, bel6 hB (Nat.le_refl _) _ _ _ _ _ _⟩
          · rw [if_pos ⟨he, hv⟩] at hd
            have HD3 := Lib.hid hd
            clear hd hv HD2
            have M : M6 w9 w6.heap.size x1 x2 x3 x4 (.slice ab bs.length cb) (.slice af l.length cf) := ⟨D9.blk⟩
            have j0 := M.k0
            have j1 := M.k1
            have j2 := M.k2
            have j3 := M.k3
            have j4 := M.k4
            have j5 := M.k5
            clear M
            have hlA := D9.A.lt
            have hlB := D9.lt
            have rb := Rv.of_own D9.body
            have rf := Rv.of_own D9.own
            have lb := D9.body.lt
            have lf := D9.own.lt
            clear D9
            go_wp2_with fail
            refine bodyPost_ret (results_row_tmp rfl _ _ w.heap.size _ _ _ _ rfl (set6 HR.out _ _ _ _ _ _) rfl rfl rfl) rfl ?_
            unfold DcPost
            rw [HD3.out]
            refine ⟨_, rfl, ⟨ab, af, cb, cf, rfl, ⟨rvFar rb (fun k hk => far6 hk _ _ _ _ _ _) (fun e => ?_), rvFar rf (fun k hk => far6 hk _ _ _ _ _ _) (fun e => ?_)⟩, fun g hg => ?_, fun g hg => ?_⟩, bel6 hB (Nat.le_refl _) _ _ _ _ _ _⟩
            · have := (lb _ e).1; omega
            · have := (lf _ e).1; omega
            · have := lb g hg; simp only [World.size_setCell]; omega
            · have := lf g hg; simp only [World.size_setCell]; omega
        · have hne : (rdEnd s == 0) = false := by simpa using he
          have hr := D8.A.res
          have Z : M6 (wr.drewN nn) w.heap.size 0 0 0 0 (.slice none 0 0) (.slice none 0 0) := ⟨hr⟩
          have z0 := Z.k0
          have z1 := Z.k1
          have z2 := Z.k2
          have z3 := Z.k3
          have z4 := Z.k4
          have z5 := Z.k5
          have zf := fun j => Z.fz j
          have hB := D8.A.bel
          have HR := Lib.hid hr
          clear Z hr D8
          have hd := HD2.out
          rw [if_neg (fun h => he h.1)] at hd
          have HD3 := Lib.hid hd
          clear hd HD2
          go_wp2_with fail
          refine bodyPost_ret (results_row_tmp rfl _ _ w.heap.size _ _ _ _ rfl (set6 HR.out _ _ _ _ _ _) rfl rfl rfl) rfl ?_
          unfold DcPost
          rw [HD3.out]
          exact ⟨_, rfl, MsgAt.zero _ _, bel6 hB (Nat.le_refl _) _ _ _ _ _ _⟩
end Go.Proofs.Ytadhghikanjkeaa
