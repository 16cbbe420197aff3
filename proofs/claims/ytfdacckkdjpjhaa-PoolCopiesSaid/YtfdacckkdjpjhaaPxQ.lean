/- The law PoolCopies. -/
import Derived.Test.YtfdacckkdjpjhaaPxT
import Derived.Test.YtfdacckkdjpjhaaPxP
import Derived.Test.YtfdacckkdjpjhaaPlZb
import Derived.Test.YtfdacckkdjpjhaaPmV
import Derived.Test.YtfdacckkdjpjhaaPlQ
namespace Go.Proofs.Ytfdacckkdjpjhaa
open Go.RowKit

/-- The blocks of a list of operations. -/
def opBlk (ov : Value) (ops : List PV) (b : Nat) : Prop := ov.ownBlock = some b ∨ ∃ x ∈ ops, x.bv.ownBlock = some b
/-- Operations whose blocks are among what is only read. -/
structure OpsO (W : World) (O : Nat → Prop) (ov : Value) (ops : List PV) : Prop where
  own : W.ownsRow 0 69 5 ov ops.length (pvcells ops)
  rd : ∀ p ∈ ops, Rv W p.bv p.o.b.length (p.o.b.map vB) ∧ PoOk p.o
  blk : ∀ b, opBlk ov ops b → O b
section
variable {W W' : World} {O : Nat → Prop} {ov : Value} {ops : List PV}
theorem OpsO.kept (h : OpsO W O ov ops) (ho : ∀ b, O b → W'.heap[b]? = W.heap[b]?) : OpsO W' O ov ops :=
  ⟨own_same h.own (fun b hb => ho b (h.blk b (.inl hb))), fun x hx => ⟨rvSame (h.rd x hx).1 (fun g _ hg => ho g (h.blk g (.inr ⟨x, hx, hg⟩))), (h.rd x hx).2⟩, h.blk⟩
theorem OpsO.at (h : OpsO W O ov ops) {i : Nat} {x : PV} (hx : ops[i]? = some x) : ∃ g c, ov = .slice (some ⟨g, 0, none⟩) ops.length c ∧ ops.length ≤ c ∧ W.cell? ⟨g, i * 5, none⟩ = some (.int .i64 x.o.k) ∧ W.cell? ⟨g, i * 5 + 1, none⟩ = some (.int .i64 x.o.worker) ∧ W.cell? ⟨g, i * 5 + 2, none⟩ = some (.int .i64 x.o.n) ∧ W.cell? ⟨g, i * 5 + 3, none⟩ = some x.bv ∧ W.cell? ⟨g, i * 5 + 4, none⟩ = some (.int .i64 x.o.wait) := by
  obtain ⟨g, c, hj, hc, _, hcell⟩ := row_at h.own (by have := (List.getElem?_eq_some_iff.1 hx).1; omega)
  have hf := fun k => pvcells_at ops i k x hx
  exact ⟨g, c, hj, hc, hcell _ _ (hf 0 (by omega)), hcell _ _ (hf 1 (by omega)), hcell _ _ (hf 2 (by omega)), hcell _ _ (hf 3 (by omega)), hcell _ _ (hf 4 (by omega))⟩
/-- A new list of operations beside a pool and a model. -/
theorem PsL.toO {B : Nat} (h : PsL B W ov ops) (hO : ∀ b, opBlk ov ops b → O b) : OpsO W O ov ops := ⟨own_base h.own (Nat.zero_le _), h.rd, hO⟩
theorem PsL.blks {B : Nat} (h : PsL B W ov ops) {b : Nat} (hb : opBlk ov ops b) : B ≤ b ∧ b < W.heap.size := hb.elim (fun e => h.own.lt b e) (fun ⟨x, hx, e⟩ => ⟨(h.low x hx b e).1, (h.low x hx b e).2.1⟩)
theorem OpsO.more (h : OpsO W O ov ops) {O' : Nat → Prop} (hO : ∀ b, O b → O' b) : OpsO W O' ov ops := ⟨h.own, h.rd, fun b hb => hO b (h.blk b hb)⟩
end
/-- Two pools, each with its model. -/
structure Dbl (w W : World) (p : Nat) (X1 : Nat → Prop) (D1 : Pl) (q : Nat) (Y1 : Nat → Prop) (L1 : List Tr) (c : Nat) (X2 : Nat → Prop) (D2 : Pl) (d : Nat) (Y2 : Nat → Prop) (L2 : List Tr) (O : Nat → Prop) (n : Nat) : Prop where
  a : TwX W p X1 D1 q Y1 (mdOf D1 L1) O
  b : TwX W c X2 D2 d Y2 (mdOf D2 L2) O
  sa : Sim n D1 L1
  sb : Sim n D2 L2
  sep : ∀ x, (X1 x ∨ Y1 x) → ¬ (X2 x ∨ Y2 x)
  bel : Below w.heap.size w W
  lo : ∀ x, (X1 x ∨ Y1 x) ∨ (X2 x ∨ Y2 x) → w.heap.size ≤ x
section
variable {w W W' : World} {p q c d n : Nat} {X1 Y1 X2 Y2 O O' X1' Y1' : Nat → Prop} {D1 D2 D1' : Pl} {L1 L2 L1' : List Tr}
theorem Dbl.swap (h : Dbl w W p X1 D1 q Y1 L1 c X2 D2 d Y2 L2 O n) : Dbl w W c X2 D2 d Y2 L2 p X1 D1 q Y1 L1 O n :=
  ⟨h.b, h.a, h.sb, h.sa, fun x hx hy => h.sep x hy hx, h.bel, fun x hx => h.lo x (hx.elim .inr .inl)⟩
theorem Dbl.mono (h : Dbl w W p X1 D1 q Y1 L1 c X2 D2 d Y2 L2 O n) {m : Nat} (hm : n ≤ m) : Dbl w W p X1 D1 q Y1 L1 c X2 D2 d Y2 L2 O m := ⟨h.a, h.b, h.sa.mono hm, h.sb.mono hm, h.sep, h.bel, h.lo⟩
theorem Dbl.later (h : Dbl w W p X1 D1 q Y1 L1 c X2 D2 d Y2 L2 O n) (B : Below W.heap.size W W') : Dbl w W' p X1 D1 q Y1 L1 c X2 D2 d Y2 L2 O n := ⟨h.a.later B, h.b.later B, h.sa, h.sb, h.sep, Go.Proofs.Ytfdacckkdjpjhaa.bel h.bel B, h.lo⟩
theorem Dbl.read (h : Dbl w W p X1 D1 q Y1 L1 c X2 D2 d Y2 L2 O n) {A' : Nat → Prop} (S : DStep (fun b => X1 b ∨ Y1 b) A' W W') : ∀ b, O b → W'.heap[b]? = W.heap[b]? := h.a.read S
/-- What is only read grows. -/
theorem Dbl.grow (h : Dbl w W p X1 D1 q Y1 L1 c X2 D2 d Y2 L2 O n) (h1 : ∀ b, O b → O' b) (h2 : ∀ b, O' b → O b ∨ (¬ (X1 b ∨ Y1 b) ∧ ¬ (X2 b ∨ Y2 b) ∧ b < W.heap.size)) : Dbl w W p X1 D1 q Y1 L1 c X2 D2 d Y2 L2 O' n :=
  ⟨h.a.grow h1 (fun b hb => (h2 b hb).imp (fun h => h) (fun e => ⟨fun hx => e.1 (.inl hx), fun hy => e.1 (.inr hy), e.2.2⟩)), h.b.grow h1 (fun b hb => (h2 b hb).imp (fun h => h) (fun e => ⟨fun hx => e.2.1 (.inl hx), fun hy => e.2.1 (.inr hy), e.2.2⟩)), h.sa, h.sb, h.sep, h.bel, h.lo⟩
/-- A step of the one. -/
theorem Dbl.stepA (h : Dbl w W p X1 D1 q Y1 L1 c X2 D2 d Y2 L2 O n) (G : Grw W O O') (T : TwX W' p X1' D1' q Y1' (mdOf D1' L1') O') (s : Sim (n + 1) D1' L1') (S : DStep (fun b => X1 b ∨ Y1 b) (fun b => X1' b ∨ Y1' b) W W') : Dbl w W' p X1' D1' q Y1' L1' c X2 D2 d Y2 L2 O' (n + 1) := by
  have hb2 : ∀ x, (X2 x ∨ Y2 x) → x < W.heap.size := fun x hx => hx.elim (h.b.xl x) (h.b.yl x)
  have hl1 : ∀ x, (X1 x ∨ Y1 x) → w.heap.size ≤ x := fun x hx => h.lo x (.inl hx)
  refine ⟨T, (h.b.other S (fun x hx hz => h.sep x hz (.inl hx)) (fun x hx hz => h.sep x hz (.inr hx)) (fun x hx hz => hz.elim (fun e => h.a.zo x e hx) (fun e => h.a.yo x e hx))).grow G.old (fun x hx => (G.new x hx).imp (fun h => h) (fun e => ⟨fun hz => ?_, fun hz => ?_, T.ol x hx⟩)), s, h.sb.mono (Nat.le_succ n), fun x hx hy => ?_, h.bel.trans (S.toBelow h.bel.size hl1), fun x hx => hx.elim (S.ge h.bel.size hl1 x) (fun e => h.lo x (.inr e))⟩
  · have := hb2 x (.inl hz); omega
  · have := hb2 x (.inr hz); omega
  · rcases S.grow x hx with e | e
    · exact h.sep x e hy
    · have := hb2 x hy; omega
end
set_option maxRecDepth 20000 in
set_option maxHeartbeats 8000000 in
theorem law_PoolCopies (v vk vn : Value) (l k n : List Int) (w : World) (hv : Rv w v l.length (l.map (Value.int .i64))) (hx : ∀ x ∈ l, -9223372036854775808 ≤ x ∧ x ≤ 9223372036854775807)
    (hvk : Rv w vk k.length (k.map (Value.int .i64))) (hxk : ∀ x ∈ k, -9223372036854775808 ≤ x ∧ x ≤ 9223372036854775807) (hvn : Rv w vn n.length (n.map (Value.int .i64))) (hxn : ∀ x ∈ n, -9223372036854775808 ≤ x ∧ x ≤ 9223372036854775807) :
    Calls Try.prog 8 #[v, vk, vn] w fun e w' => e = .returned (.bool true) ∧ Below w.heap.size w w' := by
  obtain ⟨va, vc, rfl, _, _⟩ := hv.opened
  obtain ⟨ka, kc, rfl, _, _⟩ := hvk.opened
  obtain ⟨na, nc, rfl, _, _⟩ := hvn.opened
  have HV := Bx.mk hv
  have HX := Bx.mk hx
  have HVK := Bx.mk hvk
  have HXK := Bx.mk hxk
  have HVN := Bx.mk hvn
  have HXN := Bx.mk hxn
  obtain ⟨N, hN⟩ : ∃ N, l.length = N := ⟨_, rfl⟩
  obtain ⟨NK, hNK⟩ : ∃ N, k.length = N := ⟨_, rfl⟩
  obtain ⟨NN, hNN⟩ : ∃ N, n.length = N := ⟨_, rfl⟩
  have HN := Bx.mk hN
  have HNK := Bx.mk hNK
  have HNN := Bx.mk hNN
  rw [hN, hNK, hNN]
  clear hv hx hvk hxk hvn hxn hN hNK hNN
  go_enter Try.func8, Try.ntmps8
  go_wp2_with fail
  refine (pnew_any 3 4 (by decide) (by decide) w).mono ?_
  rintro e w1 ⟨p, X, rfl, P1, hX1, B1⟩
  have HP1 := Bx.mk P1
  have HB1 := Bx.mk (And.intro B1 hX1)
  clear P1 B1 hX1
  go_wp2_with fail
  refine (mnew_any 3 4 (by decide) (by decide) w1).mono ?_
  rintro e w3 ⟨q, Y, rfl, M3, hY3, B3⟩
  have T3 : TwX w3 p X (newPl 3 4) q Y (mdOf (newPl 3 4) []) (fun _ => False) := ⟨⟨_, HP1.out.later B3, fun _ h => h⟩, ⟨_, M3, fun _ h => h⟩, fun b hz hy => by have := HP1.out.xl b hz; have := hY3 b hy; omega, (fun _ _ h => h), (fun _ _ h => h), (fun _ h => h.elim)⟩
  have HT3 := Bx.mk T3
  have HU3 : Bx (Below w.heap.size w w3 ∧ ∀ b, X b ∨ Y b → w.heap.size ≤ b) := ⟨bel HB1.out.1 B3, fun b hb => hb.elim (HB1.out.2 b) (fun e => by have h1 := hY3 b e; have h2 := HB1.out.1.size; omega)⟩
  have HSC := Bx.mk (script_any (.slice va N vc) l 20 w3 (by omega) (by have := HV.out.below HU3.out.1; rw [HN.out] at this ⊢; exact this) HX.out)
  clear T3 M3 hY3 B3 HP1 HB1
  go_wp2_with fail
  refine HSC.out.mono ?_
  rintro e w4 ⟨ov, ops, rfl, hPS, hol, B4⟩
  have T4 := (HT3.out.later B4).grow (O' := opBlk ov ops) (fun _ h => h.elim) (fun b hb => .inr ⟨fun hz => by have h1 := (hPS.blks hb).1; have h2 := HT3.out.xl b hz; omega, fun hy => by have h1 := (hPS.blks hb).1; have h2 := HT3.out.yl b hy; omega, (hPS.blks hb).2⟩)
  have HOP := Bx.mk (hPS.toO (O := opBlk ov ops) (fun _ h => h))
  obtain ⟨oa, oc, hov⟩ := own_isSlice hPS.own
  obtain ⟨m, hm⟩ : ∃ m, ops.length = m := ⟨_, rfl⟩
  rw [hm] at hov hol
  have HOV := Bx.mk hov
  have HM := Bx.mk hm
  have HT4 := Bx.mk T4
  have HU4 : Bx (Below w.heap.size w w4 ∧ ∀ b, X b ∨ Y b → w.heap.size ≤ b) := ⟨bel HU3.out.1 B4, HU3.out.2⟩
  rw [hov]
  clear T4 hPS hov hm B4 HSC HT3 HU3
  have HS0 := Bx.mk (Sim.new 3 4)
  go_wp2_with fail
  go_loopw [11] (fun u W => ∃ (i : Nat) (X Y : Nat → Prop) (D : Pl) (L : List Tr) (O : Nat → Prop), u = .int .i64 (i : Int) ∧ i ≤ m ∧ Bx (TwX W p X D q Y (mdOf D L) O) ∧ Bx (Sim i D L) ∧ Bx (OpsO W O ov ops) ∧ Bx (Below w.heap.size w W ∧ ∀ b, X b ∨ Y b → w.heap.size ≤ b)) (fun u _ => m - (intOf u).toNat)
  case atStart => exact ⟨0, _, _, _, _, _, rfl, Nat.zero_le _, HT4, HS0, HOP, HU4⟩
  case round =>
    rename World => W
    clear HT4 HS0 HOP HU4
    obtain ⟨i, X, Y, D, L, O, rfl, hi, HT, HS, HOP, HU⟩ := hrel
    by_cases hlt : i < m
    · have hltI : (i : Int) < (m : Int) := by omega
      obtain ⟨x, hx⟩ : ∃ x, ops[i]? = some x := ⟨_, List.getElem?_eq_getElem (by have := HM.out; omega)⟩
      obtain ⟨g, c, hv2, hc, y0, y1, y2, y3, y4⟩ := HOP.out.at hx
      rw [HM.out] at hv2 hc
      rw [HOV.out] at hv2
      injection hv2 with e1 e2 e3
      subst e1 e3
      have hxm := List.mem_of_getElem? hx
      have HST := Bx.mk (stepx_any x W HT.out HS.out (by omega) (HOP.out.rd x hxm).2 (HOP.out.rd x hxm).1 (fun g hg => HOP.out.blk g (.inr ⟨x, hxm, hg⟩)))
      clear e2 hx hxm
      go_wp2_with fail
      refine HST.out.mono ?_
      rintro e w5 ⟨rfl, X5, Y5, D5, L5, O5, G5, T5, S5, DS5⟩
      have HT5 := Bx.mk T5
      have HS5 := Bx.mk S5
      have HOP5 := Bx.mk ((HOP.out.kept (HT.out.read DS5)).more G5.old)
      have HU5 : Bx (Below w.heap.size w w5 ∧ ∀ b, X5 b ∨ Y5 b → w.heap.size ≤ b) := ⟨HU.out.1.trans (DS5.toBelow HU.out.1.size HU.out.2), DS5.ge HU.out.1.size HU.out.2⟩
      clear T5 S5 DS5 G5 HST y0 y1 y2 y3 y4
      go_wp2_with fail
      go_roundw
      case rel => exact ⟨i + 1, _, _, _, _, _, by simp, by omega, HT5, HS5, HOP5, HU5⟩
      case measure => simp [intOf]; omega
    · obtain rfl : i = m := by omega
      obtain ⟨R, hP, hR⟩ := HT.out.pz
      have HCP := Bx.mk (pcopy_any W hP (fun k e he => Nat.le_trans (HS.out.tl k e he) (by omega)))
      have HRR := Bx.mk hR
      clear hP hR
      go_wp2_with fail
      refine HCP.out.mono ?_
      rintro e w5 ⟨c, X2, rfl, P5, hX2, B5⟩
      have T5 := HT.out.later B5
      obtain ⟨R5, hM5, hR5⟩ := T5.md
      have hMd := HT.out.ok
      have HMC := Bx.mk (mcopy_any w5 hM5 ⟨by unfold mdOf; rw [List.length_map]; have := hMd.wsl; omega, by rw [mdOf_len]; have := hMd.many; omega, by have := HS.out.ll; show L.length ≤ _; omega⟩)
      have HP5 := Bx.mk P5
      have HB5 := Bx.mk (And.intro B5 hX2)
      have HT5 := Bx.mk T5
      have HR5 := Bx.mk hR5
      clear T5 hM5 hR5 hMd P5 B5 hX2 HCP
      go_wp2_with fail
      refine HMC.out.mono ?_
      rintro e w6 ⟨d, Y2, rfl, M6, hY2, B6⟩
      have hDB : Dbl w w6 p X D q Y L c X2 D d Y2 L O 20 := by
        have hs5 := HB5.out.1.size
        have hw5 := HU.out.1.size
        have xl5 := HT5.out.xl
        have yl5 := HT5.out.yl
        have ol := HT.out.ol
        refine ⟨HT5.out.later B6, ⟨⟨R, HP5.out.later B6, HRR.out⟩, ⟨R5, M6, HR5.out⟩, fun b hz hy => ?_, fun b hz ho => ?_, fun b hz ho => ?_, fun b hb => ?_⟩, HS.out.mono (by omega), HS.out.mono (by omega), fun x hx hy => ?_, bel (bel HU.out.1 HB5.out.1) B6, fun x hx => ?_⟩
        · have := HP5.out.xl b hz; have := hY2 b hy; omega
        · have := HB5.out.2 b hz; have := ol b ho; omega
        · have := hY2 b hz; have := ol b ho; omega
        · have := ol b hb; have := B6.size; omega
        · have h1 : x < W.heap.size := hx.elim (HT.out.xl x) (HT.out.yl x)
          rcases hy with hy | hy
          · have := HB5.out.2 x hy; omega
          · have := hY2 x hy; omega
        · rcases hx with hx | hx | hx
          · exact HU.out.2 x hx
          · have := HB5.out.2 x hx; omega
          · have := hY2 x hx; omega
      have HDB := Bx.mk hDB
      have HSC := Bx.mk (script_any (.slice ka NK kc) k 10 w6 (by omega) (by have := HVK.out.below hDB.bel; rw [HNK.out] at this ⊢; exact this) HXK.out)
      clear hDB HMC M6 hY2 B6 HP5 HB5 HT5 HR5 HRR HT HS HU HOP
      go_wp2_with fail
      refine HSC.out.mono ?_
      rintro e w7 ⟨xv, xs, rfl, hPX, hxl, B7⟩
      have D7 := HDB.out.later B7
      have HD7 := Bx.mk D7
      have HPX := Bx.mk hPX
      have HSD := Bx.mk (script_any (.slice na NN nc) n 10 w7 (by omega) (by have := HVN.out.below D7.bel; rw [HNN.out] at this ⊢; exact this) HXN.out)
      obtain ⟨xa, xc, hxv⟩ := own_isSlice hPX.own
      obtain ⟨mx, hmx⟩ : ∃ m, xs.length = m := ⟨_, rfl⟩
      rw [hmx] at hxv hxl
      have HXV := Bx.mk hxv
      have HMX := Bx.mk hmx
      rw [hxv]
      have H67 := Bx.mk B7.size
      have HLT6 : Bx (∀ x, ((X x ∨ Y x) ∨ (X2 x ∨ Y2 x)) → x < w6.heap.size) := ⟨fun x hx => hx.elim (fun e => e.elim (HDB.out.a.xl x) (HDB.out.a.yl x)) (fun e => e.elim (HDB.out.b.xl x) (HDB.out.b.yl x))⟩
      clear D7 HDB B7 HSC hPX hxv hmx
      go_wp2_with fail
      refine HSD.out.mono ?_
      rintro e w8 ⟨yv, ys, rfl, hPY, hyl, B8⟩
      have hD8 : Dbl w w8 p X D q Y L c X2 D d Y2 L (fun b => O b ∨ opBlk xv xs b ∨ opBlk yv ys b) 20 := by
        have h8 := B8.size
        refine (HD7.out.later B8).grow (fun _ h => .inl h) (fun b hb => hb.imp (fun h => h) (fun e => ?_))
        have hlow : w6.heap.size ≤ b ∧ b < w8.heap.size := e.elim (fun e => ⟨(HPX.out.blks e).1, by have := (HPX.out.blks e).2; omega⟩) (fun e => ⟨by have := (hPY.blks e).1; have := H67.out; omega, (hPY.blks e).2⟩)
        exact ⟨fun hz => by have := HLT6.out b (.inl hz); omega, fun hz => by have := HLT6.out b (.inr hz); omega, hlow.2⟩
      have HD8 := Bx.mk hD8
      have HOX := Bx.mk ((HPX.out.later B8).toO (O := fun b => O b ∨ opBlk xv xs b ∨ opBlk yv ys b) (fun b hb => .inr (.inl hb)))
      have HOY := Bx.mk (hPY.toO (O := fun b => O b ∨ opBlk xv xs b ∨ opBlk yv ys b) (fun b hb => .inr (.inr hb)))
      obtain ⟨ya, yc, hyv⟩ := own_isSlice hPY.own
      obtain ⟨my, hmy⟩ : ∃ m, ys.length = m := ⟨_, rfl⟩
      rw [hmy] at hyv hyl
      have HYV := Bx.mk hyv
      have HMY := Bx.mk hmy
      rw [hyv]
      clear hD8 HSD hPY hyv hmy B8 HD7 HPX H67 HLT6
      go_wp2_with fail
      go_loopw [16] (fun u W => ∃ (j : Nat) (X1 Y1 : Nat → Prop) (D1 : Pl) (L1 : List Tr) (X2 Y2 : Nat → Prop) (D2 : Pl) (L2 : List Tr) (O : Nat → Prop), u = .int .i64 (j : Int) ∧ j ≤ 10 ∧ Bx (Dbl w W p X1 D1 q Y1 L1 c X2 D2 d Y2 L2 O (20 + 2 * j)) ∧ Bx (OpsO W O xv xs) ∧ Bx (OpsO W O yv ys)) (fun u _ => 10 - (intOf u).toNat)
      case atStart => exact ⟨0, _, _, _, _, _, _, _, _, _, rfl, Nat.zero_le _, HD8, HOX, HOY⟩
      case round =>
        clear HD8 HOX HOY
        rename World => W
        obtain ⟨j, X1, Y1, D1, L1, X2, Y2, D2, L2, O, rfl, hj, HD, HOX, HOY⟩ := hrel
        by_cases hjx : j < mx
        · have hjxI : (j : Int) < (mx : Int) := by omega
          obtain ⟨x, hx⟩ : ∃ x, xs[j]? = some x := ⟨_, List.getElem?_eq_getElem (by have := HMX.out; omega)⟩
          obtain ⟨g, gc, hv2, hc, y0, y1, y2, y3, y4⟩ := HOX.out.at hx
          rw [HMX.out] at hv2 hc
          rw [HXV.out] at hv2
          injection hv2 with e1 e2 e3
          subst e1 e3
          have hxm := List.mem_of_getElem? hx
          have HST := Bx.mk (stepx_any x W HD.out.a HD.out.sa (by omega) (HOX.out.rd x hxm).2 (HOX.out.rd x hxm).1 (fun g hg => HOX.out.blk g (.inr ⟨x, hxm, hg⟩)))
          clear e2 hx hxm
          go_wp2_with fail
          refine HST.out.mono ?_
          rintro e w9 ⟨rfl, X9, Y9, D9, L9, O9, G9, T9, S9, DS9⟩
          have HD9 := Bx.mk (HD.out.stepA G9 T9 S9 DS9)
          have HOX9 := Bx.mk ((HOX.out.kept (HD.out.read DS9)).more G9.old)
          have HOY9 := Bx.mk ((HOY.out.kept (HD.out.read DS9)).more G9.old)
          clear T9 S9 DS9 G9 HST y0 y1 y2 y3 y4 HD HOX HOY
          by_cases hjy : j < my
          · have hjyI : (j : Int) < (my : Int) := by omega
            obtain ⟨y, hy⟩ : ∃ x, ys[j]? = some x := ⟨_, List.getElem?_eq_getElem (by have := HMY.out; omega)⟩
            obtain ⟨g2, gc2, hv2, hc2, y0, y1, y2, y3, y4⟩ := HOY9.out.at hy
            rw [HMY.out] at hv2 hc2
            rw [HYV.out] at hv2
            injection hv2 with e1 e2 e3
            subst e1 e3
            have hym := List.mem_of_getElem? hy
            have HST := Bx.mk (stepx_any y w9 HD9.out.b HD9.out.sb (by omega) (HOY9.out.rd y hym).2 (HOY9.out.rd y hym).1 (fun g hg => HOY9.out.blk g (.inr ⟨y, hym, hg⟩)))
            clear e2 hy hym
            go_wp2_with fail
            refine HST.out.mono ?_
            rintro e w10 ⟨rfl, X10, Y10, D10, L10, O10, G10, T10, S10, DS10⟩
            have HD10 := Bx.mk ((HD9.out.swap.stepA G10 T10 S10 DS10).swap)
            have HOX10 := Bx.mk ((HOX9.out.kept (HD9.out.swap.read DS10)).more G10.old)
            have HOY10 := Bx.mk ((HOY9.out.kept (HD9.out.swap.read DS10)).more G10.old)
            clear T10 S10 DS10 G10 HST y0 y1 y2 y3 y4 HD9 HOX9 HOY9
            go_wp2_with fail
            go_roundw
            case rel => exact ⟨j + 1, _, _, _, _, _, _, _, _, _, by simp, by omega, ⟨HD10.out.mono (by omega)⟩, HOX10, HOY10⟩
            case measure => simp [intOf]; omega
          · have hjyI : ¬ (j : Int) < (my : Int) := by omega
            go_wp2_with fail
            go_roundw
            case rel => exact ⟨j + 1, _, _, _, _, _, _, _, _, _, by simp, by omega, ⟨HD9.out.mono (by omega)⟩, HOX9, HOY9⟩
            case measure => simp [intOf]; omega
        · have hjxI : ¬ (j : Int) < (mx : Int) := by omega
          by_cases hjy : j < my
          · have hjyI : (j : Int) < (my : Int) := by omega
            obtain ⟨y, hy⟩ : ∃ x, ys[j]? = some x := ⟨_, List.getElem?_eq_getElem (by have := HMY.out; omega)⟩
            obtain ⟨g2, gc2, hv2, hc2, y0, y1, y2, y3, y4⟩ := HOY.out.at hy
            rw [HMY.out] at hv2 hc2
            rw [HYV.out] at hv2
            injection hv2 with e1 e2 e3
            subst e1 e3
            have hym := List.mem_of_getElem? hy
            have HST := Bx.mk (stepx_any y W HD.out.b HD.out.sb (by omega) (HOY.out.rd y hym).2 (HOY.out.rd y hym).1 (fun g hg => HOY.out.blk g (.inr ⟨y, hym, hg⟩)))
            clear e2 hy hym
            go_wp2_with fail
            refine HST.out.mono ?_
            rintro e w10 ⟨rfl, X10, Y10, D10, L10, O10, G10, T10, S10, DS10⟩
            have HD10 := Bx.mk ((HD.out.swap.stepA G10 T10 S10 DS10).swap)
            have HOX10 := Bx.mk ((HOX.out.kept (HD.out.swap.read DS10)).more G10.old)
            have HOY10 := Bx.mk ((HOY.out.kept (HD.out.swap.read DS10)).more G10.old)
            clear T10 S10 DS10 G10 HST y0 y1 y2 y3 y4 HD HOX HOY
            go_wp2_with fail
            go_roundw
            case rel => exact ⟨j + 1, _, _, _, _, _, _, _, _, _, by simp, by omega, ⟨HD10.out.mono (by omega)⟩, HOX10, HOY10⟩
            case measure => simp [intOf]; omega
          · have hjyI : ¬ (j : Int) < (my : Int) := by omega
            have HA1 := Bx.mk (agreesx_any W HD.out.a HD.out.sa)
            clear HOX HOY
            go_wp2_with fail
            refine HA1.out.mono ?_
            rintro e w9 ⟨rfl, B9⟩
            have D9 := HD.out.later B9
            have HA2 := Bx.mk (agreesx_any w9 D9.b D9.sb)
            have HB9 := Bx.mk D9.bel
            clear D9 B9 HA1 HD
            go_wp2_with fail
            refine HA2.out.mono ?_
            rintro e w10 ⟨rfl, B10⟩
            have HB10 := Bx.mk (bel HB9.out B10)
            have HLV := Bx.mk (lives34_any w10)
            clear B10 HA2 HB9
            go_wp2_with fail
            refine HLV.out.mono ?_
            rintro e w11 ⟨rfl, B11⟩
            have HB11 := Bx.mk (bel HB10.out B11)
            clear B11 HLV HB10
            go_wp2_with fail
            go_ret
            exact ⟨rfl, HB11.out⟩
end Go.Proofs.Ytfdacckkdjpjhaa
