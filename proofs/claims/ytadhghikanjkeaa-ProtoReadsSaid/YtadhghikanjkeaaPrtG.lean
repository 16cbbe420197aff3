/- Package proto: Encode. -/
import Derived.Test.YtadhghikanjkeaaPrtF
namespace Go.Proofs.Ytadhghikanjkeaa
open Go.RowKit

/-- A goal that a walk leaves alone. -/
def Later (p : Prop) : Prop := p
theorem later {p : Prop} (h : Later p) : p := h
theorem Later.in {p : Prop} (h : p) : Later p := h

theorem core_le {m : Msg} (hv : validM m = true) : (coreP m).length ≤ 100720 := by
  simp only [validM, headM, Bool.and_eq_true, inR_iff, decide_eq_true_eq] at hv
  obtain ⟨⟨⟨⟨⟨⟨_, _⟩, _⟩, _⟩, hbl⟩, hfl⟩, _⟩ := hv
  have l1 := zvar_len m.k
  have l2 := zvar_len m.c
  have l3 := zvar_len m.v
  have l4 := zvar_len m.o
  have l5 : (rawW m.body).length ≤ m.body.length + 10 := by have := uvar_len m.body.length; rw [rawW, List.length_append]; omega
  have l6 := zvar_len (m.fnd.length : Int)
  have l7 := foundW_len m.fnd
  have e : coreP m = zvar m.k ++ (zvar m.c ++ (zvar m.v ++ (zvar m.o ++ (rawW m.body ++ (zvar (m.fnd.length : Int) ++ foundW m.fnd))))) := rfl
  rw [e]
  simp only [List.length_append]
  omega

/-- What Encode answers. -/
def EncPost (w : World) (m : Msg) (en : Ending) (w' : World) : Prop :=
  Below w.heap.size w w' ∧ if validM m = true then ∃ v, en = .returned (.tuple #[v, .int .i64 0]) ∧ w'.ownsRow w.heap.size 5 1 v (framedP (coreP m)).length ((framedP (coreP m)).map vB)
    else en = .returned (.tuple #[.slice none 0 0, .int .i64 1])

/-- What stays readable beside a block that grows. -/
theorem rvGrown {w w' : World} {v : Value} {n : Nat} {us : List Value} {row : Option Nat} (h : Rv w v n us) (hg : w.grownBy w' row) (h2 : row = none ∨ row ≠ v.ownBlock) : Rv w' v n us := by
  obtain ⟨ao, cap, rfl, h1, h3, h4, h5⟩ := h
  refine ⟨ao, cap, rfl, h1, h3, h4, ?_⟩
  rcases h5 with h5 | ⟨g, off, rfl, h5⟩
  · exact .inl h5
  · refine .inr ⟨g, off, rfl, fun i u hi => ?_⟩
    have hc := h5 i u hi
    have hlt := World.block_lt_of_cell? w _ hc
    unfold World.cell? at hc ⊢
    rw [hg.block g hlt (by rcases h2 with h2 | h2; · rw [h2]; simp
                           · exact fun e => h2 e.symm)]
    exact hc

/-- Where Encode stands. -/
structure GSt (w W : World) (q : Nat) (L C : Obj) (cv : Value) (core : List UInt8) (v : Value) (bs : List UInt8) : Prop where
  own : W.ownsRow (q + 2) 5 1 v bs.length (bs.map vB)
  bl : W.heap[q]? = some L
  bc : W.heap[q + 1]? = some C
  rd : Rv W cv core.length (core.map vB)
  apart : ∀ b, cv.ownBlock = some b → b < q
  bel : Below w.heap.size w W
  sz : w.heap.size ≤ q
theorem GSt.alloc {w W : World} {q : Nat} {L C : Obj} {cv v : Value} {core bs : List UInt8} (h : GSt w W q L C cv core v bs) (o : Obj) : GSt w (W.alloc o) q L C cv core v bs :=
  ⟨h.own.alloc _, (Below.heap_alloc _ _ _ (Array.getElem?_eq_some_iff.1 h.bl).1).trans h.bl, (Below.heap_alloc _ _ _ (Array.getElem?_eq_some_iff.1 h.bc).1).trans h.bc, h.rd.below ((Below.refl _ _).alloc (Nat.le_refl _) o), h.apart, h.bel.alloc h.bel.size o, h.sz⟩
theorem GSt.grown {w W W' : World} {q : Nat} {L C : Obj} {cv v v' : Value} {core bs bs' : List UInt8} (h : GSt w W q L C cv core v bs)
    (ho : W'.ownsRow (q + 2) 5 1 v' bs'.length (bs'.map vB)) (hg : W.grownBy W' v.ownBlock) : GSt w W' q L C cv core v' bs' := by
  have hlt := h.own.lt
  have e1 := (Array.getElem?_eq_some_iff.1 h.bl).1
  have e2 := (Array.getElem?_eq_some_iff.1 h.bc).1
  have hB : Below (q + 2) W W' := ⟨hg.os, hg.tape, hg.output, hg.size, fun k hk => hg.block k (by omega) (fun e => by have := (hlt k e.symm).1; omega)⟩
  exact ⟨ho, (hB.block _ (by omega)).trans h.bl, (hB.block _ (by omega)).trans h.bc, rvGrown h.rd hg (by
    cases hv : v.ownBlock with
    | none => exact .inl rfl
    | some c => exact .inr fun e => by have := h.apart c e.symm; have := (hlt c hv).1; omega), h.apart, h.bel.trans (hB.mono (by have := h.sz; omega)), h.sz⟩

set_option maxRecDepth 20000 in
set_option maxHeartbeats 2000000 in
theorem encode_any (m : Msg) (ab af : Option Addr) (cb cf : Nat) (w : World) (hm : Cells6 w m ab af cb cf) :
    Calls Try.prog 10 #[msgV m ab af cb cf] w (EncPost w m) := by
  unfold msgV
  go_enter Try.func10, Try.ntmps10
  go_wp2_with fail
  refine (valid_any m ab af cb cf _ (hm.below ((Below.refl _ _).alloc (Nat.le_refl _) _))).mono ?_
  have hnew := World.alloc_heap_new w (.cells #[.int .i64 m.k, .int .i64 m.c, .int .i64 m.v, .int .i64 m.o, .slice ab m.body.length cb, .slice af m.fnd.length cf] 33)
  have b0 := (Below.refl _ w).alloc (Nat.le_refl _) (.cells #[.int .i64 m.k, .int .i64 m.c, .int .i64 m.v, .int .i64 m.o, .slice ab m.body.length cb, .slice af m.fnd.length cf] 33)
  rintro e w1 ⟨rfl, h1⟩
  have hblk := (h1.block w.heap.size (by simp)).trans hnew
  have b1 := b0.trans (h1.mono (by simp))
  clear h1 hnew b0
  have k0 : w1.cell? ⟨w.heap.size, 0, none⟩ = some (.int .i64 m.k) := by simp [World.cell?, hblk]
  have k1 : w1.cell? ⟨w.heap.size, 1, none⟩ = some (.int .i64 m.c) := by simp [World.cell?, hblk]
  have k2 : w1.cell? ⟨w.heap.size, 2, none⟩ = some (.int .i64 m.v) := by simp [World.cell?, hblk]
  have k3 : w1.cell? ⟨w.heap.size, 3, none⟩ = some (.int .i64 m.o) := by simp [World.cell?, hblk]
  have k4 : w1.cell? ⟨w.heap.size, 4, none⟩ = some (.slice ab m.body.length cb) := by simp [World.cell?, hblk]
  have k5 : w1.cell? ⟨w.heap.size, 5, none⟩ = some (.slice af m.fnd.length cf) := by simp [World.cell?, hblk]
  by_cases hv : validM m = true
  · have HV := Lib.hid hv
    rw [hv]
    clear hv
    go_wp2_with fail
    refine (encCore_any m ab af cb cf _ (hm.below b1) HV.out).mono ?_
    rintro e w2 ⟨cv, rfl, M2⟩
    obtain ⟨cao, ccap, rfl⟩ := M2.len
    have R2 := M2.rv
    have b2 := b1.trans (M2.2.mono b1.size)
    obtain ⟨n0, n1, n2, n3, n4, n5, n6, n7, hl⟩ := low8 (sumI lenL [((coreP m).length : Int)]).toNat
    have HL := Lib.hid hl
    obtain ⟨c0, c1, c2, c3, c4, c5, c6, c7, hc⟩ := low8 (bytesB msgL (coreP m)).toNat
    have HC := Lib.hid hc
    clear hl hc
    clear k0 k1 k2 k3 k4 k5 hblk
    have hcl := core_le HV.out
    go_wp2_with fail
    refine (lengthHash_any ((coreP m).length : Int) _).mono ?_
    rintro e w3 ⟨rfl, h3⟩
    unfold lenH
    rw [HL.out]
    have b3 := b2.trans (h3.mono b2.size)
    go_wp2_with fail
    refine (coreHash_any cao ccap (coreP m) _ (by have := R2.below h3; simpa using this) (by omega)).mono ?_
    rintro e w4 ⟨rfl, h4⟩
    unfold coreH
    rw [HC.out]
    have b4 := b3.trans (h4.mono b3.size)
    go_wp2_with (at_make; refine wpList_mk _ Try.elB rfl _ _ rfl (w4.heap.size + 2) .i64 .i64 (4 + (coreP m).length + 16) rfl rfl (by omega) (by simp only [World.size_alloc]; omega) ?_; intro a5 w5 O5 G5)
    have hL8 : w5.heap[w4.heap.size]? = some (.cells #[.int .u8 n0, .int .u8 n1, .int .u8 n2, .int .u8 n3, .int .u8 n4, .int .u8 n5, .int .u8 n6, .int .u8 n7] 82 (0, 0)) :=
      (G5.block _ (by simp; omega) (by simp)).trans ((Below.heap_alloc _ _ _ (by simp)).trans (World.alloc_heap_new w4 _))
    have hC8 : w5.heap[w4.heap.size + 1]? = some (.cells #[.int .u8 c0, .int .u8 c1, .int .u8 c2, .int .u8 c3, .int .u8 c4, .int .u8 c5, .int .u8 c6, .int .u8 c7] 82 (0, 0)) := by
      refine (G5.block _ (by simp) (by simp)).trans ?_
      have := World.alloc_heap_new (w4.alloc (.cells #[.int .u8 n0, .int .u8 n1, .int .u8 n2, .int .u8 n3, .int .u8 n4, .int .u8 n5, .int .u8 n6, .int .u8 n7] 82)) (.cells #[.int .u8 c0, .int .u8 c1, .int .u8 c2, .int .u8 c3, .int .u8 c4, .int .u8 c5, .int .u8 c6, .int .u8 c7] 82)
      rwa [World.size_alloc] at this
    have hap : ∀ b, (Value.slice cao (coreP m).length ccap).ownBlock = some b → b < w4.heap.size := by
      intro b hb
      have := (M2.1.lt b (by simpa using hb)).2
      have := h3.size
      have := h4.size
      omega
    have G0 : GSt w w5 w4.heap.size _ _ (.slice cao (coreP m).length ccap) (coreP m) (.slice a5 0 (4 + (coreP m).length + 16)) [] :=
      ⟨O5, hL8, hC8, rvGrown ((((by simpa using R2 : Rv w2 (.slice cao (coreP m).length ccap) (coreP m).length ((coreP m).map vB)).below h3).below h4).below (((Below.refl _ _).alloc (Nat.le_refl _) _).alloc (by simp) _)) G5 (.inl rfl), hap,
        ((b4.alloc b4.size _).alloc (by have := b4.size; simp; omega) _).trans ⟨G5.os, G5.tape, G5.output, G5.size, fun k hk => G5.block k (by have := b4.size; simp; omega) (by simp)⟩, b4.size⟩
    clear hL8 hC8 O5 G5 hap M2 R2 b2 b3 b4 h3 h4 b1
    obtain ⟨core, hcore⟩ : ∃ core, coreP m = core := ⟨_, rfl⟩
    have HCO := Lib.hid hcore
    generalize hLo : Obj.cells #[.int .u8 n0, .int .u8 n1, .int .u8 n2, .int .u8 n3, .int .u8 n4, .int .u8 n5, .int .u8 n6, .int .u8 n7] 82 (0, 0) = L at G0
    generalize hCo : Obj.cells #[.int .u8 c0, .int .u8 c1, .int .u8 c2, .int .u8 c3, .int .u8 c4, .int .u8 c5, .int .u8 c6, .int .u8 c7] 82 (0, 0) = C at G0
    have HLo := Lib.hid hLo
    have HCo := Lib.hid hCo
    clear hLo hCo hcore
    go_loopw [7, 24] (fun vv iv wr => ∃ i : Nat, iv = .int .i64 (i : Int) ∧ i ≤ 4 ∧ GSt w wr w4.heap.size L C (.slice cao (coreP m).length ccap) (coreP m) vv ((lowL 4 (coreP m).length).take i)) (fun _ iv _ => 4 - (intOf iv).toNat)
    case atStart => exact ⟨0, by first | rfl | trivial, by omega, G0⟩
    case round =>
      obtain ⟨i, rfl, hi, E⟩ := hrel
      by_cases hlt : i < 4
      · have hOw := E.own
        have hbs := (Array.getElem?_eq_some_iff.1 E.bc).1
        have htl : ((lowL 4 (coreP m).length).take i).length = i := by rw [List.length_take, lowL_len]; omega
        go_wp2_with (at_builtin; refine wpList_app2 _ rfl _ _ rfl Try.elB (w4.heap.size + 2) _ _ _ rfl (hOw.alloc _) _ 1 [_] rfl (Rv.one _ _ _) rfl (ones1 _ rfl) (by omega) (by simp only [World.size_alloc]; omega) ?_; intro v2 w7 hown hg hs)
        have hn : (Value.int IntKind.u8 ((coreP m).length / 2 ^ (8 * i) % 256 : Int)) = vB (UInt8.ofNat ((coreP m).length / 256 ^ i)) := by
          have e : (256 : Nat) ^ i = 2 ^ (8 * i) := by rw [show (256 : Nat) = 2 ^ 8 from rfl, ← Nat.pow_mul]
          rw [vB, UInt8.toNat_ofNat', e]
          simp
        have htk : (lowL 4 (coreP m).length).take (i + 1) = (lowL 4 (coreP m).length).take i ++ [UInt8.ofNat ((coreP m).length / 256 ^ i)] := by
          rw [List.take_add_one, lowL_get _ _ _ hlt]; rfl
        have E2 := (E.alloc (.cells #[.int .u8 ((coreP m).length / 2 ^ (8 * i) % 256 : Int)] 5)).grown (v' := v2) (bs' := (lowL 4 (coreP m).length).take (i + 1)) (by rw [htk, List.length_append, List.map_append, List.map_singleton, ← hn]; exact hown) hg
        go_roundw
        case rel => exact ⟨i + 1, by go_num, by omega, E2⟩
        case measure => simp [intOf]; omega
      · obtain rfl : i = 4 := by omega
        have e4 : ((lowL 4 (coreP m).length).take 4) = lowL 4 (coreP m).length := List.take_of_length_le (by rw [lowL_len]; omega)
        rw [e4] at E
        have el4 : (lowL 4 (coreP m).length).length = 4 := lowL_len _ _
        have hLn := HL.out
        have hCn := HC.out
        have hll : (lowL 8 (sumI lenL [((coreP m).length : Int)]).toNat).length = 8 := lowL_len _ _
        have hcc : (lowL 8 (bytesB msgL (coreP m)).toNat).length = 8 := lowL_len _ _
        have rL : ∀ W : World, W.heap[w4.heap.size]? = some L → Rv W (.slice (some ⟨w4.heap.size, 0, none⟩) 8 8) 8 ((lowL 8 (sumI lenL [((coreP m).length : Int)]).toNat).map vB) := fun W h => Rv.of_cells (Nat.le_refl _) (by unfold maxLen; omega) (fun i u hu => by
          rw [hLn] at hu
          rw [← HLo.out] at h
          simpa [World.cell?, h] using hu)
        have rC : ∀ W : World, W.heap[w4.heap.size + 1]? = some C → Rv W (.slice (some ⟨w4.heap.size + 1, 0, none⟩) 8 8) 8 ((lowL 8 (bytesB msgL (coreP m)).toNat).map vB) := fun W h => Rv.of_cells (Nat.le_refl _) (by unfold maxLen; omega) (fun i u hu => by
          rw [hCn] at hu
          rw [← HCo.out] at h
          simpa [World.cell?, h] using hu)
        have hOw := E.own
        have hbs := (Array.getElem?_eq_some_iff.1 E.bc).1
        clear hLn hCn
        go_wp2_with (at_builtin; refine wpList_app2 _ rfl _ _ rfl Try.elB (w4.heap.size + 2) _ _ _ rfl hOw _ 8 _ rfl (rL _ E.bl) (by rw [List.length_map, hll]) (ones_B _) (by omega) (by omega) ?_; intro v2 w7 hown2 hg2 hs2; refine later ?_)
        have E2 := E.grown (v' := v2) (bs' := lowL 4 (coreP m).length ++ lowL 8 (sumI lenL [((coreP m).length : Int)]).toNat) (by rw [List.length_append, List.map_append, hll]; exact hown2) hg2
        have hOw2 := E2.own
        have hbs2 := (Array.getElem?_eq_some_iff.1 E2.bc).1
        clear hown2 hg2 hs2 E hOw hbs
        refine Later.in ?_
        go_wp2_with (at_builtin; refine wpList_app2 _ rfl _ _ rfl Try.elB (w4.heap.size + 2) _ _ _ rfl hOw2 _ (coreP m).length _ rfl E2.rd (by rw [List.length_map, Nat.mul_one]) (ones_B _) (by simp only [List.length_append]; omega) (by omega) ?_; intro v3 w8 hown3 hg3 hs3; refine later ?_)
        have E3 := E2.grown (v' := v3) (bs' := (lowL 4 (coreP m).length ++ lowL 8 (sumI lenL [((coreP m).length : Int)]).toNat) ++ coreP m) (by rw [List.length_append, List.map_append]; exact hown3) hg3
        have hOw3 := E3.own
        have hbs3 := (Array.getElem?_eq_some_iff.1 E3.bc).1
        clear hown3 hg3 hs3 E2 hOw2 hbs2
        refine Later.in ?_
        go_wp2_with (at_builtin; refine wpList_app2 _ rfl _ _ rfl Try.elB (w4.heap.size + 2) _ _ _ rfl hOw3 _ 8 _ rfl (rC _ E3.bc) (by rw [List.length_map, hcc]) (ones_B _) (by simp only [List.length_append]; omega) (by omega) ?_; intro v4 w9 hown4 hg4 hs4; refine later ?_)
        have E4 := E3.grown (v' := v4) (bs' := ((lowL 4 (coreP m).length ++ lowL 8 (sumI lenL [((coreP m).length : Int)]).toNat) ++ coreP m) ++ lowL 8 (bytesB msgL (coreP m)).toNat) (by rw [List.length_append, List.map_append, hcc]; exact hown4) hg4
        clear hown4 hg4 hs4 E3 hOw3 hbs3
        refine Later.in ?_
        go_wp2_with fail
        go_ret2
        exact ⟨E4.bel, by
          rw [if_pos HV.out]
          refine ⟨v4, rfl, ?_⟩
          have := own_base E4.own (by have := E4.sz; omega : w.heap.size ≤ w4.heap.size + 2)
          simpa only [framedP, lenH, coreH, List.append_assoc] using this⟩
  · have hv' : validM m = false := by simpa using hv
    rw [hv']
    go_wp2_with fail
    go_ret2
    exact ⟨b1, by rw [if_neg hv]; rfl⟩
end Go.Proofs.Ytadhghikanjkeaa
