/- The model's reader and its Feed; the law's comparison of a list with the model's; the two readers beside each other. -/
import Derived.Test.YtadhghikanjkeaaPrtY
import Derived.Test.YtadhghikanjkeaaPrtDb
import Derived.BigQuiet
import Derived.Deep.QuietTactic
import Derived.Deep.RegionHeld3
import Derived.Test.YtadhghikanjkeaaPrtVc
import Derived.Deep.Cut
import Derived.Deep.CutRange
namespace Go.Proofs.Ytadhghikanjkeaa
open Go.RowKit

theorem Try.infoMm : (Try.prog.info? 27).map (fun i => (i.zero, i.size, i.bytes)) = some (some (.agg #[.int .i64 0, .int .i64 0, .int .i64 0, .int .i64 0, .slice none 0 0, .slice none 0 0]), 6, 80) := by kernel_rfl
theorem Try.elMm : Elem Try.prog 30 27 (.agg #[.int .i64 0, .int .i64 0, .int .i64 0, .int .i64 0, .slice none 0 0, .slice none 0 0]) 6 80 := ⟨Try.underlying30, Try.infoMm, rfl, by decide, by decide⟩

/-- A list of the model's messages that is the call's own; what they are made of is new and apart from the row. -/
structure MsM (w W : World) (v : Value) (l : List MV) : Prop where
  own : W.ownsRow w.heap.size 27 6 v l.length (mvcells l)
  rd : ∀ p ∈ l, Cells6 W p.m p.ab p.af p.cb p.cf
  low : ∀ p ∈ l, ∀ g, (p.body.ownBlock = some g ∨ p.fnd.ownBlock = some g) → w.heap.size ≤ g ∧ g < W.heap.size ∧ v.ownBlock ≠ some g
  bel : Below w.heap.size w W
theorem MsM.none (w : World) : MsM w w (.slice none 0 0) [] := ⟨World.ownsRow_nil _ _ _ _, (fun _ h => by cases h), (fun _ h => by cases h), Below.refl _ _⟩
theorem MsM.later {w W W' : World} {v : Value} {l : List MV} (h : MsM w W v l) (B : Below W.heap.size W W') : MsM w W' v l :=
  ⟨own_below h.own B, fun p hp => (h.rd p hp).below B, fun p hp g hg => ⟨(h.low p hp g hg).1, Nat.lt_of_lt_of_le (h.low p hp g hg).2.1 B.size, (h.low p hp g hg).2.2⟩, h.bel.trans (B.mono h.bel.size)⟩
theorem MsM.app {w W W' : World} {v v' : Value} {l : List MV} {p : MV} (h : MsM w W v l) (ho : W'.ownsRow w.heap.size 27 6 v' (l.length + 1) (mvcells l ++ p.cells)) (hg : W.grownBy W' v.ownBlock) (hs : SameOrNew W v v')
    (hc : Cells6 W p.m p.ab p.af p.cb p.cf) (hl : ∀ g, (p.body.ownBlock = some g ∨ p.fnd.ownBlock = some g) → w.heap.size ≤ g ∧ g < W.heap.size ∧ v.ownBlock ≠ some g) : MsM w W' v' (l ++ [p]) := by
  have far : ∀ (q : MV), (∀ g, (q.body.ownBlock = some g ∨ q.fnd.ownBlock = some g) → w.heap.size ≤ g ∧ g < W.heap.size ∧ v.ownBlock ≠ some g) → Cells6 W q.m q.ab q.af q.cb q.cf → Cells6 W' q.m q.ab q.af q.cb q.cf := fun q hq hc =>
    ⟨rvGrown hc.body hg (by
      cases hb : v.ownBlock with
      | none => exact .inl rfl
      | some c => exact .inr fun e => (hq c (.inl e.symm)).2.2 hb), rvGrown hc.fnd hg (by
      cases hb : v.ownBlock with
      | none => exact .inl rfl
      | some c => exact .inr fun e => (hq c (.inr e.symm)).2.2 hb)⟩
  have lo : ∀ (q : MV), (∀ g, (q.body.ownBlock = some g ∨ q.fnd.ownBlock = some g) → w.heap.size ≤ g ∧ g < W.heap.size ∧ v.ownBlock ≠ some g) → ∀ g, (q.body.ownBlock = some g ∨ q.fnd.ownBlock = some g) → w.heap.size ≤ g ∧ g < W'.heap.size ∧ v'.ownBlock ≠ some g := fun q hq g hg2 => by
    obtain ⟨h1, h2, h3⟩ := hq g hg2
    refine ⟨h1, Nat.lt_of_lt_of_le h2 hg.size, fun e => ?_⟩
    rcases hs with hs | hs
    · rw [hs] at e; exact h3 e
    · have := hs g e; omega
  refine ⟨?_, fun q hq => ?_, fun q hq => ?_, h.bel.grown hg h.bel.size (fun g hg' => (h.own.lt g hg').1)⟩
  · have e : mvcells (l ++ [p]) = mvcells l ++ p.cells := by simp [mvcells]
    rw [e, List.length_append]
    exact ho
  · rcases List.mem_append.1 hq with hq | hq
    · exact far q (h.low q hq) (h.rd q hq)
    · obtain rfl := List.mem_singleton.1 hq
      exact far q hl hc
  · rcases List.mem_append.1 hq with hq | hq
    · exact lo q (h.low q hq)
    · obtain rfl := List.mem_singleton.1 hq
      exact lo q hl

/-- A list of messages that is read. -/
structure MsR (W : World) (v : Value) (l : List MV) : Prop where
  rv : Rv W v l.length (mvcells l)
  rd : ∀ p ∈ l, Cells6 W p.m p.ab p.af p.cb p.cf
theorem MsR.later {W W' : World} {v : Value} {l : List MV} (h : MsR W v l) (B : Below W.heap.size W W') : MsR W' v l := ⟨h.rv.below B, fun p hp => (h.rd p hp).below B⟩
theorem MsM.toR {w W : World} {v : Value} {l : List MV} (h : MsM w W v l) : MsR W v l := ⟨Rv.of_own h.own, h.rd⟩
/-- A list that lies above a block reads on when that block is turned. -/
theorem MsV.toR {N q : Nat} {W W' : World} {v : Value} {l : List MV} (h : MsV N W v l) (S : BStep q W W') (hq : q < N) : MsR W' v l := by
  have far : ∀ (u : Value) (n : Nat) (us : List Value), Rv W u n us → (∀ b, u.ownBlock = some b → N ≤ b) → Rv W' u n us := fun u n us hr hb => hr.bstep S (fun e => by have := hb q e; omega)
  exact ⟨far _ _ _ (Rv.of_own h.own) (fun b hb => (h.own.lt b hb).1), fun p hp => ⟨far _ _ _ (h.rd p hp).body (fun b hb => (h.low p hp b (.inl hb)).1), far _ _ _ (h.rd p hp).fnd (fun b hb => (h.low p hp b (.inr hb)).1)⟩⟩
theorem MsM.toRs {w W W' : World} {q : Nat} {v : Value} {l : List MV} (h : MsM w W v l) (S : BStep q W W') (hq : q < w.heap.size) : MsR W' v l := by
  have far : ∀ (u : Value) (n : Nat) (us : List Value), Rv W u n us → (∀ b, u.ownBlock = some b → w.heap.size ≤ b) → Rv W' u n us := fun u n us hr hb => hr.bstep S (fun e => by have := hb q e; omega)
  exact ⟨far _ _ _ (Rv.of_own h.own) (fun b hb => (h.own.lt b hb).1), fun p hp => ⟨far _ _ _ (h.rd p hp).body (fun b hb => (h.low p hp b (.inl hb)).1), far _ _ _ (h.rd p hp).fnd (fun b hb => (h.low p hp b (.inr hb)).1)⟩⟩
def sliceLn : Value → Nat
  | .slice _ n _ => n
  | _ => 0
/-- The model's reader in block q: what it holds is only read. -/
structure PRm (W : World) (q : Nat) (hv : Value) (held : List UInt8) (err : Int) : Prop where
  blk : W.heap[q]? = some (.cells #[hv, .int .i64 err] 71 (0, 0))
  rv : Rv W hv held.length (held.map vB)
  lo : Low W.heap.size hv
  nq : hv.ownBlock ≠ some q
section
variable {W W' : World} {q : Nat} {hv : Value} {held : List UInt8} {err : Int}
theorem PRm.lt (h : PRm W q hv held err) : q < W.heap.size := (Array.getElem?_eq_some_iff.1 h.blk).1
theorem PRm.c0 (h : PRm W q hv held err) : W.cell? ⟨q, 0, none⟩ = some hv := by simp [World.cell?, h.blk]
theorem PRm.c1 (h : PRm W q hv held err) : W.cell? ⟨q, 1, none⟩ = some (.int .i64 err) := by simp [World.cell?, h.blk]
theorem PRm.fz (h : PRm W q hv held err) (j : Nat) : W.frozen? ⟨q, j, none⟩ = false := by simp [World.frozen?, h.blk]
theorem PRm.later (h : PRm W q hv held err) (B : Below W.heap.size W W') : PRm W' q hv held err := ⟨(B.block _ h.lt).trans h.blk, h.rv.below B, h.lo.mono B.size, h.nq⟩
end
/-- What the model's Feed answers. -/
def FmPost (w : World) (q : Nat) (hv : Value) (ms : List Msg) (held : List UInt8) (err : Int) (en : Ending) (w' : World) : Prop :=
  ∃ (v : Value) (L : List MV) (hv' : Value), en = .returned (.tuple #[v, .int .i64 err]) ∧ L.map MV.m = ms ∧ MsR w' v L ∧ PRm w' q hv' held err ∧ BStep q w w' ∧ SameOrNew w hv hv'

theorem addBlock (a : Addr) (k : Nat) : (a.add k).block = a.block := by
  unfold Addr.add
  split <;> rfl
set_option maxRecDepth 20000 in
set_option maxHeartbeats 2000000 in
theorem mfeed_any (q : Nat) (hv : Value) (held bs : List UInt8) (v : Value) (w : World) (hR : PRm w q hv held 0) (hb : Rv w v bs.length (bs.map vB)) (hl : held.length + bs.length ≤ 1000000) :
    Calls Try.prog 29 #[.pointer (some ⟨q, 0, none⟩), v] w (FmPost w q hv (feedP (held ++ bs)).1 (feedP (held ++ bs)).2.1 (feedP (held ++ bs)).2.2) := by
  obtain ⟨ab, cb, rfl, _, _⟩ := hb.opened
  obtain ⟨ah, ch, rfl, _, _⟩ := hR.rv.opened
  have c0 := hR.c0
  have c1 := hR.c1
  have hql := hR.lt
  go_enter Try.func29, Try.ntmps29
  go_wp2_with (at_builtin; refine wpList_app2 _ rfl _ _ rfl Try.elB w.heap.size _ 0 _ rfl (World.ownsRow_nil _ _ _ _) _ held.length _ rfl hR.rv (by simp) (ones_B _) (by omega) (Nat.le_refl _) ?_; intro v1 w1 O1 g1 _; refine later ?_)
  have B1 := (Below.refl w.heap.size w).grown g1 (Nat.le_refl _) (fun g hg => by cases hg)
  rw [List.nil_append, Nat.zero_add] at O1
  clear g1
  refine Later.in ?_
  go_wp2_with (at_builtin; refine wpList_app2 _ rfl _ _ rfl Try.elB w.heap.size _ _ _ rfl O1 _ bs.length _ rfl (hb.below B1) (by simp) (ones_B _) (by omega) B1.size ?_; intro v2 w2 O2 g2 _; refine later ?_)
  have B2 := B1.grown g2 B1.size (fun g hg => (O1.lt g hg).1)
  rw [← List.map_append, ← List.length_append] at O2
  obtain ⟨B, hBe⟩ : ∃ B, held ++ bs = B := ⟨_, rfl⟩
  have hBl : B.length ≤ 1000000 := by rw [← hBe, List.length_append]; exact hl
  rw [hBe] at O2
  have HBE := Lib.hid hBe
  have R2 := hR.later B2
  obtain ⟨a1, k1, rfl, _, _⟩ := (Rv.of_own O2).opened
  have hlo : ∀ g, (Value.slice a1 B.length k1).ownBlock = some g → w.heap.size ≤ g ∧ g < w2.heap.size := fun g hg => O2.lt g hg
  have RB := Rv.of_own O2
  have hsz2 := B2.size
  clear O1 g2 O2 hBe B1 c0 c1 hl
  refine Later.in ?_
  have M0 := MsM.none w2
  go_wp2_with fail
  go_loopw [6, 7] (fun av lv wr => ∃ (at' : Nat) (L : List MV) (A : Option Addr) (C : Nat), av = .slice A (B.length - at') C ∧ at' ≤ B.length ∧ 20 * L.length ≤ at' ∧ Rv w2 (.slice A (B.length - at') C) (B.length - at') ((B.drop at').map vB) ∧ (∀ g, (Value.slice A (B.length - at') C).ownBlock = some g → w.heap.size ≤ g ∧ g < w2.heap.size) ∧
      Hid (feedP B = (L.map MV.m ++ (feedP (B.drop at')).1, (feedP (B.drop at')).2)) ∧ MsM w2 wr lv L) (fun av _ _ => sliceLn av)
  case atStart => exact ⟨0, [], a1, k1, rfl, Nat.zero_le _, by simp, RB, hlo, Lib.hid (by simp), M0⟩
  case round =>
    obtain ⟨at', L, A, C, rfl, hat, hL20, RR, LO, HF, M⟩ := hrel
    obtain ⟨D, hD⟩ : ∃ D, B.drop at' = D := ⟨_, rfl⟩
    have hDl : B.length - at' = D.length := by rw [← hD, List.length_drop]
    have hf := HF.out
    rw [hD] at hf RR
    rw [hDl] at RR LO ⊢
    have hDL2 : D.length ≤ 1000000 := by omega
    have HD := Lib.hid hD
    have HDL := Lib.hid hDl
    have hLl : L.length ≤ B.length := by omega
    have hmd := mdecode_any A C D wr (RR.below M.bel) (fun g hg => Nat.lt_of_lt_of_le (LO g hg).2 M.bel.size) (by omega)
    unfold DePost at hmd
    obtain ⟨⟨mm, dn, er⟩, hdp⟩ : ∃ p, decP D = p := ⟨_, rfl⟩
    rw [hdp] at hmd
    simp only at hmd
    have HMD := Lib.hid hmd
    have HDP := Lib.hid hdp
    have HF := Lib.hid hf
    clear hmd hf hdp hD hDl M0
    go_wp2_with fail
    refine HMD.out.mono ?_
    rintro e w3 ⟨x, rfl, ⟨z1, z2, z3, z4, rfl, M9, l1, l2⟩, B3⟩
    unfold msgV
    have BA := (Below.refl w3.heap.size w3).alloc (Nat.le_refl _) (.cells #[.int .i64 mm.k, .int .i64 mm.c, .int .i64 mm.v, .int .i64 mm.o, .slice z1 mm.body.length z3, .slice z2 mm.fnd.length z4] 27)
    have hB4 := (M.bel.trans (B3.mono M.bel.size)).trans (BA.mono (M.bel.trans (B3.mono M.bel.size)).size)
    have C4 : MCell (w3.alloc (.cells #[.int .i64 mm.k, .int .i64 mm.c, .int .i64 mm.v, .int .i64 mm.o, .slice z1 mm.body.length z3, .slice z2 mm.fnd.length z4] 27)) w3.heap.size 0 mm z1 z2 z3 z4 := MCell.one (World.alloc_heap_new w3 _)
    have ML4 := (M.later B3).later BA
    have M9 := M9.below BA
    have R4 := R2.later hB4
    have l1 : ∀ g, (Value.slice z1 mm.body.length z3).ownBlock = some g → wr.heap.size ≤ g ∧ g < (w3.alloc (.cells #[.int .i64 mm.k, .int .i64 mm.c, .int .i64 mm.v, .int .i64 mm.o, .slice z1 mm.body.length z3, .slice z2 mm.fnd.length z4] 27)).heap.size := fun g hg => ⟨(l1 g hg).1, Nat.lt_of_lt_of_le (l1 g hg).2 BA.size⟩
    have l2 : ∀ g, (Value.slice z2 mm.fnd.length z4).ownBlock = some g → wr.heap.size ≤ g ∧ g < (w3.alloc (.cells #[.int .i64 mm.k, .int .i64 mm.c, .int .i64 mm.v, .int .i64 mm.o, .slice z1 mm.body.length z3, .slice z2 mm.fnd.length z4] 27)).heap.size := fun g hg => ⟨(l2 g hg).1, Nat.lt_of_lt_of_le (l2 g hg).2 BA.size⟩
    have hwr := M.bel.size
    have RR4 := RR.below hB4
    have hbl := ML4.own.lt
    have hMo := M.own.lt
    go_upto_region 7 with fail
    generalize hgw : w3.alloc (.cells #[.int .i64 mm.k, .int .i64 mm.c, .int .i64 mm.v, .int .i64 mm.o, .slice z1 mm.body.length z3, .slice z2 mm.fnd.length z4] 27) = w4 at BA hB4 C4 ML4 M9 R4 l1 l2 RR4 hbl ⊢
    generalize w3.heap.size = H at C4 ⊢
    have RR2 := Lib.hid RR
    clear hgw BA B3 HMD M RR
    have e0 := R4.c0
    have e1 := R4.c1
    have ez := fun j => R4.fz j
    have hBw : Below w.heap.size w w4 := B2.trans (hB4.mono hsz2)
    by_cases h3 : er = 3
    · subst h3
      have hfd : feedP D = ([], D, 0) := feedP_more (by rw [HDP.out])
      have hf := HF.out
      rw [hfd, List.append_nil] at hf
      have HFD := Lib.hid hf
      clear hf hfd HF HDP C4
      go_wp2_with fail
      go_ret2
      refine ⟨_, L, .slice A D.length C, by rw [HBE.out, HFD.out]; rfl, by rw [HBE.out, HFD.out], ML4.toRs ((BStep.refl q _).set 0 _) (by omega), ?_, (BStep.of_below hBw).set 0 _, .inr fun g hg => (LO g hg).1⟩
      rw [HBE.out, HFD.out]
      refine ⟨by have := setSame (i := 0) R4.blk (.slice A D.length C); simpa using this, RR4.bstep ((BStep.refl q _).set 0 _) (fun e => by have := (LO q e).1; omega), fun g hg => by have := (LO g hg).2; have := hB4.size; rw [World.size_setCell]; omega, fun e => by have := (LO q e).1; omega⟩
    · by_cases h0 : er = 0
      · subst h0
        have hsz := decP_size D (by rw [HDP.out])
        rw [HDP.out] at hsz
        simp only at hsz
        have hf2 := HF.out
        rw [feedP_one (b := D) (by rw [HDP.out]), HDP.out, ← HD.out, List.drop_drop] at hf2
        simp only at hf2
        have HF2 := Lib.hid hf2
        have hdl := HDL.out
        have hdn1 : at' + dn ≤ B.length := by omega
        have hdn2 : 20 ≤ dn := hsz.1
        have hdnD : dn ≤ D.length := hsz.2
        have hdnC : D.length ≤ C := by
          obtain ⟨_, _, e, h, _⟩ := RR4.opened
          cases e
          exact h
        have RT := rvTail RR4 (by simp) dn hdnD
        have q0 := C4.k0
        have q1 := C4.k1
        have q2 := C4.k2
        have q3 := C4.k3
        have q4 := C4.k4
        have q5 := C4.k5
        have BA := (Below.refl w4.heap.size w4).alloc (Nat.le_refl _) (.cells #[.int .i64 mm.k, .int .i64 mm.c, .int .i64 mm.v, .int .i64 mm.o, .slice z1 mm.body.length z3, .slice z2 mm.fnd.length z4] 27)
        have hX : Rv (w4.alloc (.cells #[.int .i64 mm.k, .int .i64 mm.c, .int .i64 mm.v, .int .i64 mm.o, .slice z1 mm.body.length z3, .slice z2 mm.fnd.length z4] 27)) (.slice (some ⟨w4.heap.size, 0, none⟩) 1 1) 1 [.int .i64 mm.k, .int .i64 mm.c, .int .i64 mm.v, .int .i64 mm.o, .slice z1 mm.body.length z3, .slice z2 mm.fnd.length z4] := Rv.of_cells (by omega) (by unfold maxLen; omega) (fun i u hu => by
          have hn := World.alloc_heap_new w4 (.cells #[.int .i64 mm.k, .int .i64 mm.c, .int .i64 mm.v, .int .i64 mm.o, .slice z1 mm.body.length z3, .slice z2 mm.fnd.length z4] 27)
          unfold World.cell?
          rw [hn]
          simpa using hu)
        have MLx := ML4.later BA
        have M9x := M9.below BA
        clear hf2 hdl hsz HF HDP C4 e0 e1 ez hdnD
        go_wp2_with (at_builtin; refine wpList_app2 _ rfl _ _ rfl Try.elMm w2.heap.size _ _ _ rfl MLx.own _ 1 _ rfl hX rfl (by simp [Value.oneCell']) (by omega) MLx.bel.size ?_; intro v5 w5 O5 g5 s5; refine later ?_)
        have ML5 : MsM w2 w5 v5 (L ++ [⟨mm, z1, z2, z3, z4⟩]) := MLx.app (p := ⟨mm, z1, z2, z3, z4⟩) O5 g5 s5 M9x (fun g hg => by
          have h := hg.elim (l1 g) (l2 g)
          refine ⟨Nat.le_trans hwr h.1, by simp only [World.size_alloc]; omega, fun e => ?_⟩
          have := (hMo g e).2
          omega)
        clear O5 g5 s5 hX MLx M9x q0 q1 q2 q3 q4 q5
        have hdl : B.length - (at' + dn) = D.length - dn := by have := HDL.out; omega
        have HDL3 := Lib.hid hdl
        have HRT := Lib.hid RT
        have hdnD : dn ≤ D.length := by have := HDL.out; omega
        have hdni : (dn : Int) ≤ (D.length : Int) := by omega
        have hRRt : Rv w2 (.slice A D.length C) D.length (D.map vB) := RR2.out
        have rt2 := Lib.hid (rvTail hRRt (by simp) dn hdnD)
        clear hdl RT hRRt
        refine Later.in ?_
        by_cases hC : C = dn
        · go_wp2_with fail
          go_roundw
          case rel =>
            refine ⟨at' + dn, L ++ [⟨mm, z1, z2, z3, z4⟩], A, 0, ?_, hdn1, by simp only [List.length_append, List.length_singleton]; omega, ?_, ?_, Lib.hid ?_, ML5⟩
            · rw [HDL3.out]
            · rw [HDL3.out]
              have := rt2.out A (D.length - dn) 0 (by rw [if_pos hC]) rfl (by omega)
              rw [← List.map_drop, ← HD.out, List.drop_drop] at this
              rw [HD.out] at this
              exact this
            · intro g hg
              refine LO g ?_
              cases A with
              | none => cases hg
              | some a => simpa [Value.ownBlock] using hg
            · rw [HF2.out]; simp
          case measure => simp only [sliceLn]; omega
        · go_wp2_with fail
          go_roundw
          case rel =>
            refine ⟨at' + dn, L ++ [⟨mm, z1, z2, z3, z4⟩], A.map (·.add dn), C - dn, ?_, hdn1, by simp only [List.length_append, List.length_singleton]; omega, ?_, ?_, Lib.hid ?_, ML5⟩
            · rw [HDL3.out]
            · rw [HDL3.out]
              have := rt2.out (A.map (·.add dn)) (D.length - dn) (C - dn) (by rw [if_neg hC]) rfl rfl
              rw [← List.map_drop, ← HD.out, List.drop_drop] at this
              rw [HD.out] at this
              exact this
            · intro g hg
              refine LO g ?_
              cases A with
              | none => cases hg
              | some a => simpa [Value.ownBlock, addBlock] using hg
            · rw [HF2.out]; simp
          case measure => simp only [sliceLn]; omega
      · have hb3 : (er == 3) = false := by simpa using h3
        have hb0 : (er != 0) = true := by simpa using h0
        have hfd : feedP D = ([], [], er) := by
          have := feedP_bad (b := D) (by rw [HDP.out]; exact h3) (by rw [HDP.out]; exact h0)
          rw [HDP.out] at this
          exact this
        have hf := HF.out
        rw [hfd, List.append_nil] at hf
        have HFD := Lib.hid hf
        clear hf hfd HF HDP C4
        go_wp2_with fail
        go_ret2
        refine ⟨_, L, .slice none 0 0, by rw [HBE.out, HFD.out]; rfl, by rw [HBE.out, HFD.out], ML4.toRs (((BStep.refl q _).set 0 _).set 1 _) (by omega), ?_, ((BStep.of_below hBw).set 0 _).set 1 _, .inr fun g hg => by cases hg⟩
        rw [HBE.out, HFD.out]
        refine ⟨?_, Rv.nil _, (fun g hg => by cases hg), (fun e => by cases e)⟩
        have := setSame (i := 1) (setSame (i := 0) R4.blk (.slice none 0 0)) (.int .i64 er)
        simpa using this
set_option maxRecDepth 20000 in
set_option maxHeartbeats 1000000 in
theorem mfeedBad_any (q : Nat) (hv : Value) (held : List UInt8) (err : Int) (v : Value) (w : World) (hR : PRm w q hv held err) (he : err ≠ 0) :
    Calls Try.prog 29 #[.pointer (some ⟨q, 0, none⟩), v] w fun e w' => e = .returned (.tuple #[.slice none 0 0, .int .i64 err]) ∧ ∃ n, w' = w.drewN n := by
  have c1 := hR.c1
  have hne : (err != 0) = true := by simpa using he
  go_enter Try.func29, Try.ntmps29
  go_wp2_with fail
  go_quiet (fail)
  go_wp2_with fail
  go_ret2
  exact ⟨rfl, _, rfl⟩
theorem mfeedAll_any (q : Nat) (hv : Value) (held bs : List UInt8) (err : Int) (v : Value) (w : World) (hR : PRm w q hv held err) (hb : Rv w v bs.length (bs.map vB)) (hl : held.length + bs.length ≤ 1000000) :
    Calls Try.prog 29 #[.pointer (some ⟨q, 0, none⟩), v] w (FmPost w q hv (if err ≠ 0 then [] else (feedP (held ++ bs)).1) (if err ≠ 0 then held else (feedP (held ++ bs)).2.1) (if err ≠ 0 then err else (feedP (held ++ bs)).2.2)) := by
  by_cases he : err = 0
  · subst he
    exact mfeed_any q hv held bs v w hR hb hl
  · refine (mfeedBad_any q hv held err v w hR he).mono ?_
    rintro e w' ⟨rfl, n, rfl⟩
    rw [if_pos he, if_pos he, if_pos he]
    exact ⟨_, [], hv, rfl, rfl, ⟨Rv.nil _, (fun _ h => by cases h)⟩, hR.later (belD (Below.refl _ _) n), BStep.of_below (belD (Below.refl _ _) n), .inl rfl⟩

theorem mvcells_at2 : ∀ (G : List MV) (i k : Nat) (u : Value) (hi : i < G.length), k < 6 → (G[i].cells)[k]? = some u → (mvcells G)[i * 6 + k]? = some u
  | [], i, k, u, hi, _, _ => by simp at hi
  | p :: G, i, k, u, hi, hk, hu => by
    have e : mvcells (p :: G) = p.cells ++ mvcells G := rfl
    have hl : p.cells.length = 6 := rfl
    cases i with
    | zero =>
      rw [e, Nat.zero_mul, Nat.zero_add, List.getElem?_append_left (by omega)]
      exact hu
    | succ i =>
      rw [e, List.getElem?_append_right (by omega), hl, show (i + 1) * 6 + k - 6 = i * 6 + k by omega]
      exact mvcells_at2 G i k u (by simpa using hi) hk (by simpa using hu)
theorem MsR.at {W : World} {a : Option Addr} {n c : Nat} {G : List MV} (h : MsR W (.slice a n c) G) (hn : n = G.length) (i : Nat) (hi : i < n) :
    ∃ g o ab af cb cf m, (G.map MV.m)[i]? = some m ∧ a = some ⟨g, o, none⟩ ∧ MCell W g (o + i * 6) m ab af cb cf ∧ Cells6 W m ab af cb cf := by
  subst hn
  have hat : ∀ k u, k < 6 → (G[i].cells)[k]? = some u → ∃ g o, a = some ⟨g, o, none⟩ ∧ W.cell? ⟨g, o + (i * 6 + k), none⟩ = some u := fun k u hk hu => h.rv.rd.cell (mvcells_at2 G i k u hi hk hu)
  obtain ⟨g, o, rfl, c0⟩ := hat 0 _ (by omega) rfl
  have hat2 : ∀ k u, k < 6 → (G[i].cells)[k]? = some u → W.cell? ⟨g, o + i * 6 + k, none⟩ = some u := fun k u hk hu => by
    obtain ⟨g', o', e, hc⟩ := hat k u hk hu
    cases e
    rw [Nat.add_assoc]
    exact hc
  refine ⟨g, o, G[i].ab, G[i].af, G[i].cb, G[i].cf, G[i].m, ?_, rfl, ⟨hat2 0 _ (by omega) rfl, hat2 1 _ (by omega) rfl, hat2 2 _ (by omega) rfl, hat2 3 _ (by omega) rfl, hat2 4 _ (by omega) rfl, hat2 5 _ (by omega) rfl⟩, h.rd _ (List.getElem_mem hi)⟩
  rw [List.getElem?_map, List.getElem?_eq_getElem hi]
  rfl

set_option maxRecDepth 20000 in
set_option maxHeartbeats 1000000 in
theorem same_any (x y : Value) (L L' : List MV) (w : World) (hx : MsR w x L) (hy : MsR w y L') (he : L.map MV.m = L'.map MV.m) :
    Calls Try.prog 30 #[x, y] w fun e w' => e = .returned (.bool true) ∧ Below w.heap.size w w' := by
  have hll : L'.length = L.length := by have := congrArg List.length he; simpa using this.symm
  have hlm := hx.rv.len
  unfold maxLen at hlm
  obtain ⟨a, c, rfl, _, _⟩ := hx.rv.opened
  obtain ⟨b, d, rfl, _, _⟩ := hy.rv.opened
  have HL := Lib.hid hll.symm
  have HE := Lib.hid he
  rw [hll] at hy ⊢
  clear hll he
  obtain ⟨n, hn⟩ : ∃ n, L.length = n := ⟨_, rfl⟩
  rw [hn] at hx hy hlm ⊢
  have HN := Lib.hid hn.symm
  clear hn
  go_enter Try.func30, Try.ntmps30
  go_wp2_with fail
  go_loopw [5] (fun iv W => ∃ i : Nat, iv = .int .i64 (i : Int) ∧ i ≤ n ∧ Below w.heap.size w W) (fun iv _ => n - (intOf iv).toNat)
  case atStart => exact ⟨0, by first | rfl | trivial, by omega, Below.refl _ _⟩
  case round =>
    rename World => W
    obtain ⟨i, rfl, hi, BW⟩ := hrel
    by_cases hlt : i < n
    · have hii : (i : Int) < (n : Int) := by omega
      obtain ⟨g, o, z1, z2, z3, z4, mm, hm1, rfl, C1, N1⟩ := (hx.later BW).at HN.out i hlt
      obtain ⟨g', o', y1, y2, y3, y4, mj, hm2, rfl, C2, N2⟩ := (hy.later BW).at (HN.out.trans HL.out) i hlt
      have hmm : mm = mj := Option.some.inj (hm1.symm.trans ((congrArg (·[i]?) HE.out).trans hm2))
      subst hmm
      clear hm1 hm2
      have hMK : ∀ W' : World, Below W.heap.size W W' → (W'.cell? ⟨g, o + i * 6, none⟩ = some (.int .i64 mm.k) ∧ W'.cell? ⟨g, o + i * 6 + 1, none⟩ = some (.int .i64 mm.c) ∧ W'.cell? ⟨g, o + i * 6 + 2, none⟩ = some (.int .i64 mm.v) ∧ W'.cell? ⟨g, o + i * 6 + 3, none⟩ = some (.int .i64 mm.o) ∧ W'.cell? ⟨g, o + i * 6 + 4, none⟩ = some (.slice z1 mm.body.length z3) ∧ W'.cell? ⟨g, o + i * 6 + 5, none⟩ = some (.slice z2 mm.fnd.length z4) ∧ W'.cell? ⟨g', o' + i * 6, none⟩ = some (.int .i64 mm.k) ∧ W'.cell? ⟨g', o' + i * 6 + 1, none⟩ = some (.int .i64 mm.c) ∧ W'.cell? ⟨g', o' + i * 6 + 2, none⟩ = some (.int .i64 mm.v) ∧ W'.cell? ⟨g', o' + i * 6 + 3, none⟩ = some (.int .i64 mm.o) ∧ W'.cell? ⟨g', o' + i * 6 + 4, none⟩ = some (.slice y1 mm.body.length y3) ∧ W'.cell? ⟨g', o' + i * 6 + 5, none⟩ = some (.slice y2 mm.fnd.length y4)) ∧ Below W.heap.size W W' := fun W' B => by
        have Zc := C1.later B
        have Xc := C2.later B
        exact ⟨⟨Zc.k0, Zc.k1, Zc.k2, Zc.k3, Zc.k4, Zc.k5, Xc.k0, Xc.k1, Xc.k2, Xc.k3, Xc.k4, Xc.k5⟩, B⟩
      have HMK := Lib.hid hMK
      have hpl := fun W : World => plain_any mm z1 z2 z3 z4 W
      have hsm := fun (W : World) (h1 : Cells6 W mm z1 z2 z3 z4) (h2 : Cells6 W mm y1 y2 y3 y4) => same_refl mm z1 z2 y1 y2 z3 z4 y3 y4 W h1 h2
      unfold msgV at hpl hsm
      have HPL := Lib.hid hpl
      have HSM := Lib.hid hsm
      have hBr := Below.refl W.heap.size W
      clear hMK hpl hsm C1 C2
      go_wp2_with fail
      go_region_held3 (fun W' => (W'.cell? ⟨g, o + i * 6, none⟩ = some (.int .i64 mm.k) ∧ W'.cell? ⟨g, o + i * 6 + 1, none⟩ = some (.int .i64 mm.c) ∧ W'.cell? ⟨g, o + i * 6 + 2, none⟩ = some (.int .i64 mm.v) ∧ W'.cell? ⟨g, o + i * 6 + 3, none⟩ = some (.int .i64 mm.o) ∧ W'.cell? ⟨g, o + i * 6 + 4, none⟩ = some (.slice z1 mm.body.length z3) ∧ W'.cell? ⟨g, o + i * 6 + 5, none⟩ = some (.slice z2 mm.fnd.length z4) ∧ W'.cell? ⟨g', o' + i * 6, none⟩ = some (.int .i64 mm.k) ∧ W'.cell? ⟨g', o' + i * 6 + 1, none⟩ = some (.int .i64 mm.c) ∧ W'.cell? ⟨g', o' + i * 6 + 2, none⟩ = some (.int .i64 mm.v) ∧ W'.cell? ⟨g', o' + i * 6 + 3, none⟩ = some (.int .i64 mm.o) ∧ W'.cell? ⟨g', o' + i * 6 + 4, none⟩ = some (.slice y1 mm.body.length y3) ∧ W'.cell? ⟨g', o' + i * 6 + 5, none⟩ = some (.slice y2 mm.fnd.length y4)) ∧ Below W.heap.size W W')
        (first | exact HMK.out _ hBn | exact HMK.out _ hBr.drew)
        (first
          | (go_at_call 17; have hS := (show (_ ∧ Below W.heap.size W _) by assumption).2; refine (HPL.out _).mono ?_; rintro e u6 ⟨rfl, B6⟩; have hBn := bel hS B6)
          | (go_at_call 16; have hS := (show (_ ∧ Below W.heap.size W _) by assumption).2; refine (HSM.out _ (N1.below hS) (N2.below hS)).mono ?_; rintro e u7 ⟨rfl, B7⟩; have hBn := bel hS B7))
      go_wp2_with fail
      go_roundw
      case rel => exact ⟨i + 1, by go_num, by omega, bel BW hBn⟩
      case measure => simp [intOf]; omega
    · obtain rfl : i = n := by omega
      go_wp2_with fail
      go_ret
      exact ⟨rfl, BW⟩

theorem made_at5 (al : Option Addr) (cl : Nat) (l : List Int) (a : Nat) (j : Int) (hj : j = (a : Int)) (w : World) (hl : Rv w (.slice al l.length cl) l.length (l.map (Value.int .i64))) (h64 : I64 l) (ha : a ≤ 1000) :
    Calls Try.prog 8 #[.slice al l.length cl, .int .i64 j] w (MadePost w (madeM l a)) := by
  subst hj
  exact made_any al cl l a w hl h64 ha
theorem Made.up5 {w w1 W : World} {e : TypeId} {v : Value} {us : List Value} (B : Below w.heap.size w w1) (h : Made w1 W e v us) : Made w W e v us := ⟨own_base h.1 B.size, bel B h.2⟩
/-- The two readers, apart from each other. -/
structure Two (wt W : World) (q qm : Nat) (hv hvm : Value) (held : List UInt8) (err : Int) : Prop where
  rd : PRd W q hv held err
  rm : PRm W qm hvm held err
  lt : q < qm
  low : wt.heap.size ≤ q
  s1 : ∀ b, hv.ownBlock = some b → hvm.ownBlock ≠ some b
  s2 : hv.ownBlock ≠ some qm
  s3 : ∀ b, hvm.ownBlock = some b → wt.heap.size ≤ b ∧ b ≠ q
  bel : Below wt.heap.size wt W
section
variable {wt W W1 W2 : World} {q qm : Nat} {hv hvm hv' hvm' : Value} {held held' : List UInt8} {err err' : Int}
/-- The model's reader behind the program's Feed. -/
theorem Two.mid (h : Two wt W q qm hv hvm held err) (S : WStep W W1 q hv hv') : PRm W1 qm hvm held err ∧ hv'.ownBlock ≠ some qm ∧ (∀ b, hv'.ownBlock = some b → hvm.ownBlock ≠ some b) ∧ Below wt.heap.size wt W1 := by
  have hlt := h.lt
  have hml := h.rm.lt
  have hlow := h.low
  refine ⟨⟨(S.block _ hml (by omega) (fun e => h.s2 e.symm)).trans h.rm.blk, ?_, h.rm.lo.mono S.size, h.rm.nq⟩, fun e => ?_, fun b hb e => ?_, h.bel.trans ⟨S.os, S.tape, S.output, S.size, fun k hk => S.block k (Nat.lt_of_lt_of_le hk h.bel.size) (by omega) (fun e => by have := (h.rd.own.lt k e.symm).1; omega)⟩⟩
  · obtain ⟨ao, cap, e, h1, h3, h4, h5⟩ := h.rm.rv
    refine ⟨ao, cap, e, h1, h3, h4, ?_⟩
    rcases h5 with h5 | ⟨g, off, e2, h5⟩
    · exact .inl h5
    · refine .inr ⟨g, off, e2, fun i u hi => ?_⟩
      have hc := h5 i u hi
      have hg : hvm.ownBlock = some g := by rw [e, e2]; rfl
      unfold World.cell? at hc ⊢
      rw [S.block g (h.rm.lo g hg) (h.s3 g hg).2 (fun e3 => h.s1 g e3.symm hg)]
      exact hc
  · rcases S.own with s | s
    · rw [s] at e; exact h.s2 e
    · have := s _ e; omega
  · rcases S.own with s | s
    · rw [s] at hb; exact h.s1 b hb e
    · have := s _ hb; have := h.rm.lo b e; omega
theorem Two.later (h : Two wt W q qm hv hvm held err) (B : Below W.heap.size W W1) : Two wt W1 q qm hv hvm held err := ⟨h.rd.later B, h.rm.later B, h.lt, h.low, h.s1, h.s2, h.s3, h.bel.trans (B.mono h.bel.size)⟩
theorem Two.step (h : Two wt W q qm hv hvm held err) (R : PRd W1 q hv' held' err') (S : WStep W W1 q hv hv') (R2 : PRm W2 qm hvm' held' err') (S2 : BStep qm W1 W2) (sn : SameOrNew W1 hvm hvm') : Two wt W2 q qm hv' hvm' held' err' := by
  obtain ⟨m1, m2, m3, b1⟩ := h.mid S
  have hlt := h.lt
  have hlow := h.low
  have hql := R.lt
  refine ⟨⟨(S2.block _ hql (by omega)).trans R.blk, ?_⟩, R2, hlt, hlow, fun b hb e => ?_, m2, fun b hb => ?_, ?_⟩
  · obtain ⟨hl, h0 | ⟨g, cap, cur, e, hb1, hg1, hn, hc, hs', ht⟩⟩ := R.own
    · exact ⟨hl, .inl h0⟩
    · exact ⟨hl, .inr ⟨g, cap, cur, e, hb1, (S2.block g (Array.getElem?_eq_some_iff.1 hg1).1 (fun e2 => m2 (by rw [e, ← e2]; rfl))).trans hg1, hn, hc, hs', ht⟩⟩
  · rcases sn with s | s
    · rw [s] at e; exact m3 b hb e
    · have := s b e; have := (R.own.lt b hb).2; omega
  · rcases sn with s | s
    · rw [s] at hb; exact h.s3 b hb
    · have := s b hb
      have := h.bel.size
      have := S.size
      exact ⟨by omega, by omega⟩
  · exact b1.trans (S2.below _ (by omega) m1.lt)
end
end Go.Proofs.Ytadhghikanjkeaa
