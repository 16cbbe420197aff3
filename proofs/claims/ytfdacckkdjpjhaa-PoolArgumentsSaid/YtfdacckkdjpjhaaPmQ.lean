/- The law PoolRuns. -/
import Derived.Test.YtfdacckkdjpjhaaPmT
import Derived.Test.YtfdacckkdjpjhaaPmP
import Derived.Test.YtfdacckkdjpjhaaPlQ
namespace Go.Proofs.Ytfdacckkdjpjhaa
open Go.RowKit

/-- The blocks of a list of operations. -/
def opBlk (ov : Value) (ops : List PV) (b : Nat) : Prop := ov.ownBlock = some b ∨ ∃ x ∈ ops, x.bv.ownBlock = some b
/-- Operations whose blocks are among what is only read. -/
structure OpsO (W : World) (O : Nat → Prop) (ov : Value) (ops : List PV) : Prop where
  own : W.ownsRow 0 69 5 ov ops.length (pvcells ops)
  rd : ∀ p ∈ ops, Rv W p.bv p.o.b.length (p.o.b.map vB) ∧ PoOk p.o
  blk : ∀ b, opBlk ov ops b → O b
section
variable {W W' : World} {p q n : Nat} {Z Z' Y Y' O A A' : Nat → Prop} {D : Pl} {L : List Tr} {M : Md} {ov : Value} {ops : List PV}
theorem OpsO.kept (h : OpsO W O ov ops) (ho : ∀ b, O b → W'.heap[b]? = W.heap[b]?) : OpsO W' O ov ops :=
  ⟨own_same h.own (fun b hb => ho b (h.blk b (.inl hb))), fun x hx => ⟨rvSame (h.rd x hx).1 (fun g _ hg => ho g (h.blk g (.inr ⟨x, hx, hg⟩))), (h.rd x hx).2⟩, h.blk⟩
theorem OpsO.at (h : OpsO W O ov ops) {i : Nat} {x : PV} (hx : ops[i]? = some x) : ∃ g c, ov = .slice (some ⟨g, 0, none⟩) ops.length c ∧ ops.length ≤ c ∧ W.cell? ⟨g, i * 5, none⟩ = some (.int .i64 x.o.k) ∧ W.cell? ⟨g, i * 5 + 1, none⟩ = some (.int .i64 x.o.worker) ∧ W.cell? ⟨g, i * 5 + 2, none⟩ = some (.int .i64 x.o.n) ∧ W.cell? ⟨g, i * 5 + 3, none⟩ = some x.bv ∧ W.cell? ⟨g, i * 5 + 4, none⟩ = some (.int .i64 x.o.wait) := by
  obtain ⟨g, c, hj, hc, _, hcell⟩ := row_at h.own (by have := (List.getElem?_eq_some_iff.1 hx).1; omega)
  have hf := fun k => pvcells_at ops i k x hx
  exact ⟨g, c, hj, hc, hcell _ _ (hf 0 (by omega)), hcell _ _ (hf 1 (by omega)), hcell _ _ (hf 2 (by omega)), hcell _ _ (hf 3 (by omega)), hcell _ _ (hf 4 (by omega))⟩
/-- A new list of operations beside a pool and a model. -/
theorem PsL.toO {B : Nat} (h : PsL B W ov ops) (hO : ∀ b, opBlk ov ops b → O b) : OpsO W O ov ops := ⟨own_base h.own (Nat.zero_le _), h.rd, hO⟩
theorem PsL.blks {B : Nat} (h : PsL B W ov ops) {b : Nat} (hb : opBlk ov ops b) : B ≤ b ∧ b < W.heap.size := hb.elim (fun e => h.own.lt b e) (fun ⟨x, hx, e⟩ => ⟨(h.low x hx b e).1, (h.low x hx b e).2.1⟩)
/-- What is only read grows. -/
theorem Two.grow (h : Two W p Z D q Y M O) {O' : Nat → Prop} (h1 : ∀ b, O b → O' b) (h2 : ∀ b, O' b → O b ∨ (¬ Z b ∧ ¬ Y b ∧ b < W.heap.size)) : Two W p Z D q Y M O' := by
  obtain ⟨R, hm, hr⟩ := h.md
  exact ⟨h.pz, ⟨R, hm, fun b hb => h1 b (hr b hb)⟩, h.zy, fun b hz ho => (h2 b ho).elim (h.zo b hz) (fun e => e.1 hz), fun b hy ho => (h2 b ho).elim (h.yo b hy) (fun e => e.2.1 hy), fun b hb => (h2 b hb).elim (h.ol b) (fun e => e.2.2)⟩
theorem Two.read (h : Two W p Z D q Y M O) (S : DStep (fun b => Z b ∨ Y b) A' W W') : ∀ b, O b → W'.heap[b]? = W.heap[b]? := fun b hb => S.block b (h.ol b hb) (fun hz => hz.elim (fun e => h.zo b e hb) (fun e => h.yo b e hb))
theorem Two.union (h : Two W p Z D q Y M O) : ∀ b, (Z b ∨ Y b) → b < W.heap.size := fun b hb => hb.elim (h.pz.zl b) (h.yl b)
/-- A pool and a model made. -/
theorem two_new {W1 W2 : World} {n : Nat} {t : Int} (P : PZ W1 p Z (newPl n t)) (B : Below W1.heap.size W1 W2) (h : MAt W2 q Y (fun _ => False) (mdOf (newPl n t) [])) (hY : ∀ b, Y b → W1.heap.size ≤ b) : Two W2 p Z (newPl n t) q Y (mdOf (newPl n t) []) (fun _ => False) :=
  ⟨P.later B, ⟨_, h, fun _ h => h⟩, fun b hz hy => by have := P.zl b hz; have := hY b hy; omega, (fun _ _ h => h), (fun _ _ h => h), (fun _ h => h.elim)⟩
end
set_option maxRecDepth 20000 in
set_option maxHeartbeats 4000000 in
theorem law_PoolRuns (v : Value) (l : List Int) (workers timeout : Int) (w : World) (hv : Rv w v l.length (l.map (Value.int .i64))) (hx : ∀ x ∈ l, -9223372036854775808 ≤ x ∧ x ≤ 9223372036854775807) (hw : -9223372036854775808 ≤ workers ∧ workers ≤ 9223372036854775807) (ht : -9223372036854775808 ≤ timeout ∧ timeout ≤ 9223372036854775807) :
    Calls Try.prog 5 #[v, .int .i64 workers, .int .i64 timeout] w fun e w' => e = .returned (.bool true) ∧ Below w.heap.size w w' := by
  obtain ⟨va, vc, rfl, _, _⟩ := hv.opened
  have HV := Bx.mk hv
  have HX := Bx.mk hx
  have HW := Bx.mk hw
  have HT := Bx.mk ht
  obtain ⟨N, hN⟩ : ∃ N, l.length = N := ⟨_, rfl⟩
  have HN := Bx.mk hN
  rw [hN]
  clear hv hx hw ht hN
  go_enter Try.func5, Try.ntmps5
  go_wp2_with fail
  refine (around_nat workers 4 (by omega) HW.out.1 HW.out.2 (by omega) _).mono ?_
  rintro e w1 ⟨a, ha, hae, rfl, rfl⟩
  go_wp2_with fail
  refine (around_nat timeout 9 (by omega) HT.out.1 HT.out.2 (by omega) _).mono ?_
  rintro e w1 ⟨b, hb, hbe, rfl, rfl⟩
  have HAE := Bx.mk hae
  have HBE := Bx.mk hbe
  obtain ⟨na, hna⟩ : ∃ n : Nat, 1 + (a : Int) = (n : Int) := ⟨1 + a, by omega⟩
  obtain ⟨nb, hnb⟩ : ∃ n : Nat, 1 + (b : Int) = (n : Int) := ⟨1 + b, by omega⟩
  have hna2 : na = 1 + a := by omega
  have hnb2 : nb = 1 + b := by omega
  have HNA := Bx.mk hna2
  have HNB := Bx.mk hnb2
  have hna3 : 1 ≤ na ∧ na ≤ 4 := by omega
  have hnb3 : 1 ≤ nb ∧ nb ≤ 9 := by omega
  have HP := Bx.mk (fun W => pz_new na (nb : Int) (by omega) (by omega) W)
  clear hae hbe hna2 hnb2
  go_wp2_with fail
  refine (HP.out _).mono ?_
  rintro e w1 ⟨p, Z, rfl, P1, hZ1, B1⟩
  have HP1 := Bx.mk P1
  have HB1 := Bx.mk (And.intro B1 hZ1)
  clear P1 B1 hZ1 HP ha hb hna hnb
  go_wp2_with fail
  refine (around_nat workers 4 (by omega) HW.out.1 HW.out.2 (by omega) _).mono ?_
  rintro e w2 ⟨a2, ha2, hae2, rfl, rfl⟩
  obtain rfl : a2 = a := by have h1 := HAE.out.out; have h2 := hae2.out; omega
  have hna : 1 + (a2 : Int) = (na : Int) := by have := HNA.out; omega
  clear hae2 ha2
  go_wp2_with fail
  refine (around_nat timeout 9 (by omega) HT.out.1 HT.out.2 (by omega) _).mono ?_
  rintro e w2 ⟨b2, hb2, hbe2, rfl, rfl⟩
  obtain rfl : b2 = b := by have h1 := HBE.out.out; have h2 := hbe2.out; omega
  have hnb : 1 + (b2 : Int) = (nb : Int) := by have := HNB.out; omega
  clear hbe2 hb2
  have HM := Bx.mk (fun W => mnew_any na (nb : Int) (by omega) (by omega) W)
  go_wp2_with fail
  refine (HM.out _).mono ?_
  rintro e w3 ⟨q, Y, rfl, M3, hY3, B3⟩
  have T3 := two_new HP1.out B3 M3 hY3
  have HT3 := Bx.mk T3
  have HU3 : Bx (Below w.heap.size w w3 ∧ ∀ b, Z b ∨ Y b → w.heap.size ≤ b) := ⟨bel HB1.out.1 B3, fun b hb => hb.elim (HB1.out.2 b) (fun e => by have h1 := hY3 b e; have h2 := HB1.out.1.size; omega)⟩
  have HSC := Bx.mk (script_any (.slice va N vc) l 40 w3 (by omega) (by have := HV.out.below HU3.out.1; rw [HN.out] at this ⊢; exact this) HX.out)
  clear T3 M3 hY3 B3 HM hna hnb hna3 hnb3 HP1 HB1
  go_wp2_with fail
  refine HSC.out.mono ?_
  rintro e w4 ⟨ov, ops, rfl, hPS, hol, B4⟩
  have T4 := (HT3.out.later B4).grow (O' := opBlk ov ops) (fun _ h => h.elim) (fun b hb => .inr ⟨fun hz => by have h1 := (hPS.blks hb).1; have h2 := HT3.out.pz.zl b hz; omega, fun hy => by have h1 := (hPS.blks hb).1; have h2 := HT3.out.yl b hy; omega, (hPS.blks hb).2⟩)
  have HOP := Bx.mk (hPS.toO (O := opBlk ov ops) (fun _ h => h))
  obtain ⟨oa, oc, hov⟩ := own_isSlice hPS.own
  obtain ⟨m, hm⟩ : ∃ m, ops.length = m := ⟨_, rfl⟩
  rw [hm] at hov hol
  have HOV := Bx.mk hov
  have HM := Bx.mk hm
  have HT4 := Bx.mk T4
  have HU4 : Bx (Below w.heap.size w w4 ∧ ∀ b, Z b ∨ Y b → w.heap.size ≤ b) := ⟨bel HU3.out.1 B4, HU3.out.2⟩
  rw [hov]
  clear T4 hPS hov hm B4 HSC HT3 HU3
  have HS0 := Bx.mk (Sim.new na (nb : Int))
  go_wp2_with fail
  go_loopw [11] (fun u W => ∃ (i : Nat) (Z Y : Nat → Prop) (D : Pl) (L : List Tr), u = .int .i64 (i : Int) ∧ i ≤ m ∧ Bx (Two W p Z D q Y (mdOf D L) (opBlk ov ops)) ∧ Bx (Sim i D L) ∧ Bx (OpsO W (opBlk ov ops) ov ops) ∧ Bx (Below w.heap.size w W ∧ ∀ b, Z b ∨ Y b → w.heap.size ≤ b)) (fun u _ => m - (intOf u).toNat)
  case atStart => exact ⟨0, _, _, _, _, rfl, Nat.zero_le _, HT4, HS0, HOP, HU4⟩
  case round =>
    rename World => W
    clear HT4 HS0 HOP HU4
    obtain ⟨i, Z, Y, D, L, rfl, hi, HT, HS, HOP, HU⟩ := hrel
    by_cases hlt : i < m
    · have hltI : (i : Int) < (m : Int) := by omega
      obtain ⟨x, hx⟩ : ∃ x, ops[i]? = some x := ⟨_, List.getElem?_eq_getElem (by have := HM.out; omega)⟩
      obtain ⟨g, c, hv2, hc, y0, y1, y2, y3, y4⟩ := HOP.out.at hx
      rw [HM.out] at hv2 hc
      rw [HOV.out] at hv2
      injection hv2 with e1 e2 e3
      subst e1 e3
      have hxm := List.mem_of_getElem? hx
      have HST := Bx.mk (step_any x W HT.out HS.out (by omega) (HOP.out.rd x hxm).2 (HOP.out.rd x hxm).1 (fun g hg => .inr ⟨x, hxm, hg⟩))
      clear e2 hx hxm
      go_wp2_with fail
      refine HST.out.mono ?_
      rintro e w5 ⟨rfl, Z5, Y5, D5, L5, T5, S5, DS5⟩
      have HAG := Bx.mk (agrees_any w5 T5 S5)
      have HT5 := Bx.mk T5
      have HS5 := Bx.mk S5
      have HOP5 := Bx.mk (HOP.out.kept (HT.out.read DS5))
      have HU5 : Bx (Below w.heap.size w w5 ∧ ∀ b, Z5 b ∨ Y5 b → w.heap.size ≤ b) := ⟨HU.out.1.trans (DS5.toBelow HU.out.1.size HU.out.2), DS5.ge HU.out.1.size HU.out.2⟩
      clear T5 S5 DS5 HST y0 y1 y2 y3 y4
      go_wp2_with fail
      refine HAG.out.mono ?_
      rintro e w6 ⟨rfl, B6⟩
      have HT6 := Bx.mk (HT5.out.later B6)
      have HOP6 := Bx.mk (HOP5.out.kept (fun b hb => B6.block b (HT5.out.ol b hb)))
      have HU6 : Bx (Below w.heap.size w w6 ∧ ∀ b, Z5 b ∨ Y5 b → w.heap.size ≤ b) := ⟨bel HU5.out.1 B6, HU5.out.2⟩
      clear B6 HAG
      go_wp2_with fail
      go_roundw
      case rel => exact ⟨i + 1, _, _, _, _, by simp, by omega, HT6, HS5, HOP6, HU6⟩
      case measure => simp [intOf]; omega
    · obtain rfl : i = m := by omega
      have HLV := Bx.mk (lives34_any W)
      go_wp2_with fail
      refine HLV.out.mono ?_
      rintro e w5 ⟨rfl, B5⟩
      have HB5 := Bx.mk (bel HU.out.1 B5)
      clear B5
      go_wp2_with fail
      go_ret
      exact ⟨rfl, HB5.out⟩
end Go.Proofs.Ytfdacckkdjpjhaa
