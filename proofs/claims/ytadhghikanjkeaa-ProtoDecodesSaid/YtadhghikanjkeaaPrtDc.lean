/- The law ProtoDecodes. -/
import Derived.Test.YtadhghikanjkeaaPrtDb
import Derived.Test.YtadhghikanjkeaaPrtDd
namespace Go.Proofs.Ytadhghikanjkeaa
open Go.RowKit

theorem made_at0 (al : Option Addr) (cl : Nat) (l : List Int) (w : World) (hl : Rv w (.slice al l.length cl) l.length (l.map (Value.int .i64))) (h64 : I64 l) :
    Calls Try.prog 8 #[.slice al l.length cl, .int .i64 0] w (MadePost w (madeM l 0)) := made_any al cl l 0 w hl h64 (by omega)
theorem Made.up {w w1 W : World} {e : TypeId} {v : Value} {us : List Value} (B : Below w.heap.size w w1) (h : Made w1 W e v us) : Made w W e v us := ⟨own_base h.1 B.size, bel B h.2⟩

theorem wrapB (x : Int) : ∃ z : UInt8, IntKind.u8.wrap x = (z.toNat : Int) := ⟨UInt8.ofNat (x % 256).toNat, by rw [IntKind.wrap_u8, UInt8.toNat_ofNat']; omega⟩
theorem byteOf (x : Int) (h1 : 0 ≤ x) (h2 : x < 256) : ∃ z : UInt8, x = (z.toNat : Int) := ⟨UInt8.ofNat x.toNat, by rw [UInt8.toNat_ofNat']; omega⟩
theorem own_lit1 (w : World) (us : List Value) (e : TypeId) (n : Nat) (hn : us.length = n) (hm : n ≤ maxLen) : (w.alloc (.cells us.toArray e)).ownsRow w.heap.size e 1 (.slice (some ⟨w.heap.size, 0, none⟩) n n) n us :=
  ⟨by omega, .inr ⟨w.heap.size, n, us.toArray, rfl, Nat.le_refl _, World.alloc_heap_new w _, Nat.le_refl _, hm, by simpa using hn, by rw [← hn]; simp⟩⟩
theorem core_pos (m : Msg) : 1 ≤ (coreP m).length := by
  have : 1 ≤ (zvar m.k).length := by
    unfold zvar uvar uvarF
    split <;> simp
  rw [coreP, List.length_append]
  omega
set_option maxRecDepth 20000 in
set_option linter.unusedSimpArgs false in
set_option maxHeartbeats 4000000 in
theorem law_ProtoDecodes (u r : Value) (l : List Int) (rs : List UInt8) (at' : Int) (c : UInt8) (len' : Int) (w : World) (hu : Rv w u l.length (l.map (Value.int .i64))) (hr : Rv w r rs.length (rs.map vB))
    (hl : I64 l) (hat : -9223372036854775808 ≤ at' ∧ at' ≤ 9223372036854775807) (hlen : -9223372036854775808 ≤ len' ∧ len' ≤ 9223372036854775807) :
    Calls Try.prog 4 #[u, r, .int .i64 at', vB c, .int .i64 len'] w (RetT w) := by
  obtain ⟨al, cl, rfl, _, _⟩ := hu.opened
  obtain ⟨ar, cr, rfl, hrc, _⟩ := hr.opened
  have HAT := Lib.hid hat
  have HLEN := Lib.hid hlen
  obtain ⟨m, hm⟩ : ∃ m, madeM l 0 = m := ⟨_, rfl⟩
  have hmv := madeM_valid l 0
  have hfl := frame_len l 0
  have hma := fun (W : World) (h : Rv W (.slice al l.length cl) l.length (l.map (Value.int .i64))) => made_at0 al cl l W h hl
  rw [hm] at hmv hfl
  simp only [hm] at hma
  have HMV := Lib.hid hmv
  have HMA := Lib.hid hma
  clear hat hlen hm hmv hma
  obtain ⟨cr', hcr'⟩ : ∃ x, coreP m = x := ⟨_, rfl⟩
  unfold vB
  go_enter Try.func4, Try.ntmps4
  go_upto_region 1 with fail
  go_cut [11] from 30 to 36 (fun fv wx => ∃ few : List UInt8, few.length ≤ 60 ∧ Made w wx 5 fv (few.map vB))
  case first =>
    have B0 := (Below.refl _ w).alloc (Nat.le_refl _) (.cells #[] 5)
    have O0 := own_empty w 5
    by_cases h60 : rs.length ≤ 60
    · have h60i : (rs.length : Int) ≤ 60 := by omega
      have h60j : (rs.length : Int) ≤ (cr : Int) := by omega
      go_wp2_with (at_builtin; refine wpList_app2 _ rfl _ _ rfl Try.elB w.heap.size _ 0 _ rfl O0 _ rs.length _ rfl (hr.below B0) (by simp) (ones_B _) (by omega) (by simp) ?_; intro v1 w1 O1 g1 _; refine later ?_)
      refine Later.in ?_
      go_wp2_with fail
      go_meet
      exact ⟨rs, h60, by rw [List.length_map]; simpa using O1, B0.grown g1 B0.size (fun g hg => by cases hg; exact Nat.le_refl _)⟩
    · have h60i : ¬ (rs.length : Int) ≤ 60 := by omega
      have h60k : (60 : Int) < (rs.length : Int) := by omega
      have h60j : (60 : Int) ≤ (cr : Int) := by omega
      have RX : Rv (w.alloc (.cells #[] 5)) (.slice ar 60 cr) 60 ((rs.take 60).map vB) := by
        obtain ⟨_, _, e1, _, e2⟩ := (hr.below B0).firsts 60 (by omega)
        cases e1
        rw [List.map_take]
        exact e2 60 rfl
      have ht : (rs.take 60).length = 60 := by rw [List.length_take]; omega
      have HT := Lib.hid ht
      clear ht
      go_wp2_with (at_builtin; refine wpList_app2 _ rfl _ _ rfl Try.elB w.heap.size _ 0 _ rfl O0 _ 60 _ rfl RX (by rw [List.length_map, HT.out]) (ones_B _) (by omega) (by simp) ?_; intro v1 w1 O1 g1 _; refine later ?_)
      refine Later.in ?_
      go_wp2_with fail
      go_meet
      refine ⟨rs.take 60, by have := HT.out; omega, ?_, B0.grown g1 B0.size (fun g hg => by cases hg; exact Nat.le_refl _)⟩
      rw [List.length_map, HT.out]
      simpa using O1
  case rest =>
  obtain ⟨few, hfew, Mf⟩ := hcut
  rename World => w1
  obtain ⟨af, kf, rfl, _, _⟩ := Mf.rvB.opened
  -- the frame
  go_wp2_with fail
  refine (HMA.out _ (hu.below Mf.2)).mono ?_
  rintro e w2 ⟨x, rfl, ⟨ab, ag, cb, cg, rfl, C2, _, _⟩, B2⟩
  have Mf := Mf.later B2
  clear B2
  go_wp2_with fail
  refine (core_any m ab ag cb cg w2 C2 HMV.out).mono ?_
  rintro e w3 ⟨v3, rfl, M3⟩
  have Mf := Mf.later M3.2
  have B3 := Mf.2
  rw [hcr'] at M3
  obtain ⟨a3, k3, rfl, _, _⟩ := M3.rvB.opened
  have hfp := framedP_len cr'
  rw [hcr', hfp] at hfl
  go_wp2_with fail
  refine (framed_any _ cr' w3 M3.rvB (by omega)).mono ?_
  rintro e w4 ⟨v4, rfl, M4⟩
  have Mf := Mf.later M4.2
  obtain ⟨fr, hfr⟩ : ∃ fr, framedP cr' = fr := ⟨_, rfl⟩
  rw [hfr] at M4 hfp
  have MF := Made.up B3 M4
  have hcp := core_pos m
  rw [hcr'] at hcp
  have hfrl : fr.length ≤ 220 ∧ 21 ≤ fr.length := by omega
  have HFR := Lib.hid hfr
  clear M3 M4 B3 C2 hfr hfp
  obtain ⟨aF, kF, rfl, hkF, _⟩ := MF.rvB.opened
  -- the core
  go_wp2_with fail
  refine (HMA.out _ (hu.below MF.2)).mono ?_
  rintro e w5 ⟨x, rfl, ⟨ab, ag, cb, cg, rfl, C5, _, _⟩, B5⟩
  have Mf := Mf.later B5
  have MF := MF.later B5
  clear B5
  go_wp2_with fail
  refine (core_any m ab ag cb cg w5 C5 HMV.out).mono ?_
  rintro e w6 ⟨v6, rfl, M6⟩
  have MC := Made.up Mf.2 M6
  have Mf := Mf.later M6.2
  have MF := MF.later M6.2
  rw [hcr'] at MC
  clear M6 C5
  obtain ⟨aC, kC, rfl, hkC, _⟩ := MC.rvB.opened
  have HCR := Lib.hid hcr'
  clear hcr'
  have hcl : cr'.length ≤ 200 := by omega
  have hfx : (0 : Int) < (fr.length : Int) := by omega
  -- where
  go_wp2_with fail
  refine (around_nat at' fr.length (by omega) HAT.out.1 HAT.out.2 (by omega) _).mono ?_
  rintro e w7 ⟨k, hk, _, rfl, rfl⟩
  have O7 := own_empty w6 5
  have B7 := (Below.refl _ w6).alloc (Nat.le_refl _) (.cells #[] 5)
  go_wp2_with (at_builtin; refine wpList_app2 _ rfl _ _ rfl Try.elB w6.heap.size _ 0 _ rfl O7 _ fr.length _ rfl (MF.later B7).rvB (by simp) (ones_B _) (by omega) (by simp) ?_; intro v8 w8 O8 g8 _; refine later ?_)
  rw [Nat.zero_add, List.nil_append] at O8
  have B8 := B7.grown g8 B7.size (fun g hg => by cases hg; exact Nat.le_refl _)
  clear B7 O7 g8
  obtain ⟨mm, hmm⟩ : ∃ mm, fr.length = mm + 1 := ⟨fr.length - 1, by omega⟩
  obtain ⟨g4, cap4, e4, hg4, hc4, hcell4, hfr4⟩ := own_open (by rw [hmm] at O8; exact O8)
  rw [← hmm] at e4 hc4
  subst e4
  have hcx := hcell4 k (by omega)
  have hfx4 := hfr4 k
  rw [List.getElem?_map, List.getElem?_eq_getElem hk] at hcx
  simp only [Option.map_some, vB] at hcx
  have hst := O8.stored k (vB c)
  have hki : (k : Int) < (fr.length : Int) := by omega
  clear hmm hcell4 hfr4
  refine Later.in ?_
  go_upto_region 7 with fail
  have OB : (w8.setCell ⟨g4, k, none⟩ (.int .u8 (c.toNat : Int))).ownsRow w6.heap.size 5 1 (.slice (some ⟨g4, 0, none⟩) fr.length cap4) fr.length ((fr.set k c).map vB) := by
    have h := hst.1
    rw [← List.map_set] at h
    exact h
  have BB : Below w6.heap.size w6 (w8.setCell ⟨g4, k, none⟩ (.int .u8 (c.toNat : Int))) := B8.setCell (p := ⟨g4, k, none⟩) (by show w6.heap.size ≤ g4; omega) _
  obtain ⟨bent, hbent⟩ : ∃ x, fr.set k c = x := ⟨_, rfl⟩
  have hbl : fr.length = bent.length := by rw [← hbent, List.length_set]
  rw [hbent] at OB
  generalize hgw : w8.setCell ⟨g4, k, none⟩ (.int .u8 (c.toNat : Int)) = w9 at OB BB ⊢
  have MB : Made w w9 5 (.slice (some ⟨g4, 0, none⟩) fr.length cap4) (bent.map vB) := ⟨by rw [List.length_map, ← hbl]; exact own_base OB MF.2.size, bel MF.2 BB⟩
  have Mf := Mf.later BB
  have MC := MC.later BB
  have MF := MF.later BB
  have HBL := Lib.hid hbl
  clear hgw hbent OB BB B8 O8 hst hcx hfx4 hbl
  have B9 := MF.2
  go_upto_region 8 with fail
  have hkF2 : k + 1 ≤ kF := by omega
  have hfst : ∀ W : World, Below w9.heap.size w9 W → Rv W (.slice aF k kF) k ((fr.take k).map vB) := fun W h => by
    obtain ⟨_, _, e1, _, e2⟩ := (MF.later h).rvB.firsts k (by omega)
    cases e1
    rw [List.map_take]
    exact e2 k rfl
  have hsnd : ∀ W : World, Below w9.heap.size w9 W → ∀ A m C, A = (if kF = k + 1 then aF else aF.map (·.add (k + 1))) → m = fr.length - (k + 1) → C = kF - (k + 1) → Rv W (.slice A m C) (fr.length - (k + 1)) ((fr.map vB).drop (k + 1)) := fun W h => rvTail2 (MF.later h).rvB (by simp) (k + 1) (by omega)
  have HFS := Lib.hid hfst
  have HSN := Lib.hid hsnd
  clear hfst hsnd
  go_cut [16] from 55 to 64 (fun lv wx => ∃ less : List UInt8, less.length ≤ 220 ∧ Made w9 wx 5 lv (less.map vB))
  case first =>
    have hkC : (k : Int) ≤ (kF : Int) := by omega
    have hkC1 : (k : Int) + 1 ≤ (kF : Int) := by omega
    have hwk : IntKind.i64.wrap ((k : Int) + 1) = (k : Int) + 1 := by rw [IntKind.wrap_i64]; omega
    have hkf1 : (k : Int) + 1 ≤ (fr.length : Int) := by omega
    have e1 : ((k : Int) + 1).toNat = k + 1 := by omega
    obtain ⟨A2, hA2⟩ : ∃ A, A = (if kF = k + 1 then aF else aF.map (·.add (k + 1))) := ⟨_, rfl⟩
    have HA2 := Lib.hid hA2
    clear hA2
    have hk0 : ¬ (k : Int) + 1 < 0 := by omega
    refine wp_region_held_drew (S := fun W' => Below w9.heap.size w9 W') (by kernel_rfl) (Below.refl _ _).drew (fun _ => ?_)
    have E := (Below.refl w9.heap.size w9).drew
    generalize hgw : w9.drew = x0 at E ⊢
    clear hgw
    refine wpAnyH_do 0 55 rfl rfl (by kernel_rfl) (by kernel_rfl) (by kernel_rfl) (fun _ _ _ _ _ h => h) (by kernel_rfl) (fun W hS => by go_simp; try with_reducible rfl) E ?_
    simp only [List.setIfInBounds_toArray, List.set_cons_succ, List.set_cons_zero]
    refine wpAnyH_do 1 56 rfl rfl (by kernel_rfl) (by kernel_rfl) (by kernel_rfl) (fun _ _ _ _ _ h => h) (by kernel_rfl) (fun W hS => by go_simp; try with_reducible rfl) E ?_
    simp only [List.setIfInBounds_toArray, List.set_cons_succ, List.set_cons_zero]
    refine wpAnyH_do 2 57 rfl rfl (by kernel_rfl) (by kernel_rfl) (by kernel_rfl) (fun _ _ _ _ _ h => h) (by kernel_rfl) (fun W hS => by go_simp; try with_reducible rfl) E ?_
    simp only [List.setIfInBounds_toArray, List.set_cons_succ, List.set_cons_zero]
    refine wpAnyH_do (v := .slice aF k kF) 3 58 rfl rfl (by kernel_rfl) (by kernel_rfl) (by kernel_rfl) (fun _ _ _ _ _ h => h) (by kernel_rfl) (fun W hS => by go_simp; try with_reducible rfl) E ?_
    simp only [List.setIfInBounds_toArray, List.set_cons_succ, List.set_cons_zero]
    refine wpAnyH_do 5 60 rfl rfl (by kernel_rfl) (by kernel_rfl) (by kernel_rfl) (fun _ _ _ _ _ h => h) (by kernel_rfl) (fun W hS => by go_simp; try with_reducible rfl) E ?_
    simp only [List.setIfInBounds_toArray, List.set_cons_succ, List.set_cons_zero]
    refine wpAnyH_do 6 61 rfl rfl (by kernel_rfl) (by kernel_rfl) (by kernel_rfl) (fun _ _ _ _ _ h => h) (by kernel_rfl) (fun W hS => by go_simp; try with_reducible rfl) E ?_
    simp only [List.setIfInBounds_toArray, List.set_cons_succ, List.set_cons_zero]
    refine wpAnyH_do (v := .int .i64 ((k : Int) + 1)) 7 62 rfl rfl (by kernel_rfl) (by kernel_rfl) (by kernel_rfl) (fun _ _ _ _ _ h => h) (by kernel_rfl) (fun W hS => by go_simp; try with_reducible rfl) E ?_
    simp only [List.setIfInBounds_toArray, List.set_cons_succ, List.set_cons_zero]
    refine wpAnyH_do (v := .slice A2 (fr.length - (k + 1)) (kF - (k + 1))) 8 63 rfl rfl (by kernel_rfl) (by kernel_rfl) (by kernel_rfl) (fun _ _ _ _ _ h => h) (by kernel_rfl) (fun W hS => by rw [HA2.out]; go_simp) E ?_
    simp only [List.setIfInBounds_toArray, List.set_cons_succ, List.set_cons_zero]
    refine wpAnyH_one 4 rfl (by kernel_rfl) (by kernel_rfl) (fun K hK => ?_)
    refine opApp rfl _ _ rfl Try.elB w9.heap.size _ 0 _ rfl (World.ownsRow_nil _ _ _ _) _ k _ rfl (HFS.out _ E) (by rw [List.length_map, List.length_take]; omega) (ones_B _) (by omega) E.size ?_
    intro va x1 O1 g1 _
    have E := E.grown g1 E.size (fun g hg => by cases hg)
    refine hK _ _ E ?_
    clear hK g1
    try simp only [Act.put, List.setIfInBounds_toArray, List.set_cons_zero, List.set_cons_succ]
    refine wpAnyH_one 9 rfl (by kernel_rfl) (by kernel_rfl) (fun K hK => ?_)
    refine opApp rfl _ _ rfl Try.elB w9.heap.size _ _ _ rfl O1 _ (fr.length - (k + 1)) _ rfl (HSN.out _ E _ _ _ HA2.out rfl rfl) (by rw [List.length_drop, List.length_map]; omega) (fun u hu => ones_B _ u (List.mem_of_mem_drop hu)) (by omega) E.size ?_
    intro vb x2 O2 g2 _
    have E := E.grown g2 E.size (fun g hg => (O1.lt g hg).1)
    refine hK _ _ E ?_
    clear hK g2
    try simp only [Act.put, List.setIfInBounds_toArray, List.set_cons_zero, List.set_cons_succ]
    refine wpAnyH_do 10 16 rfl rfl (by kernel_rfl) (by kernel_rfl) (by kernel_rfl) (fun _ _ _ _ _ h => h) (by kernel_rfl) (fun W hS => by go_simp; try with_reducible rfl) E ?_
    try simp only [List.setIfInBounds_toArray, List.set_cons_succ, List.set_cons_zero]
    refine wpAnyH_done (by kernel_rfl) ?_ _
    go_wp2_with fail
    go_meet
    refine ⟨fr.take k ++ fr.drop (k + 1), by rw [List.length_append, List.length_take, List.length_drop]; omega, ?_, E⟩
    rw [List.length_map, List.length_append, List.length_take, List.length_drop, List.map_append, List.map_take, List.map_drop, Nat.min_eq_left (by omega)]
    simpa using O2
  case rest =>
  obtain ⟨less, hless, ML⟩ := hcut
  rename World => w10
  have Mf := Mf.later ML.2
  have MF := MF.later ML.2
  have MC := MC.later ML.2
  have MB := MB.later ML.2
  have ML := Made.up B9 ML
  have B10 := ML.2
  have O10 := own_empty w10 5
  have B11 := (Below.refl _ w10).alloc (Nat.le_refl _) (.cells #[] 5)
  clear B9 HFS HSN
  go_wp2_with (at_builtin; refine wpList_app2 _ rfl _ _ rfl Try.elB w10.heap.size _ 0 _ rfl O10 _ cr'.length _ rfl (MC.later B11).rvB (by simp) (ones_B _) (by omega) (by simp) ?_; intro v11 w11 O11 g11 _; refine later ?_)
  rw [Nat.zero_add, List.nil_append] at O11
  have B11 := B11.grown g11 B11.size (fun g hg => by cases hg; exact Nat.le_refl _)
  clear O10 g11
  obtain ⟨mm, hmm⟩ : ∃ mm, cr'.length = mm + 1 := ⟨cr'.length - 1, by omega⟩
  obtain ⟨g5, cap5, e5, hg5, hc5, hcell5, hfr5⟩ := own_open (by rw [hmm] at O11; exact O11)
  rw [← hmm] at e5 hc5
  subst e5
  have HC5 := Lib.hid (fun (j : Nat) (hj : j < cr'.length) => hcell5 j (by omega))
  clear hmm hcell5
  have hcpi : (0 : Int) < (cr'.length : Int) := by omega
  refine Later.in ?_
  go_wp2_with fail
  refine (around_nat at' cr'.length (by omega) HAT.out.1 HAT.out.2 (by omega) _).mono ?_
  rintro e w12 ⟨k2, hk2, _, rfl, rfl⟩
  have hcx := HC5.out k2 hk2
  have hfx5 := hfr5 k2
  rw [List.getElem?_map, List.getElem?_eq_getElem hk2] at hcx
  simp only [Option.map_some, vB] at hcx
  have hst := O11.stored k2 (vB c)
  have hki2 : (k2 : Int) < (cr'.length : Int) := by omega
  clear HC5 hfr5
  go_upto_region 11 with fail
  have OB : (w11.setCell ⟨g5, k2, none⟩ (.int .u8 (c.toNat : Int))).ownsRow w10.heap.size 5 1 (.slice (some ⟨g5, 0, none⟩) cr'.length cap5) cr'.length ((cr'.set k2 c).map vB) := by
    have h := hst.1
    rw [← List.map_set] at h
    exact h
  have BB : Below w10.heap.size w10 (w11.setCell ⟨g5, k2, none⟩ (.int .u8 (c.toNat : Int))) := B11.setCell (p := ⟨g5, k2, none⟩) (by show w10.heap.size ≤ g5; omega) _
  obtain ⟨oth, hoth⟩ : ∃ x, cr'.set k2 c = x := ⟨_, rfl⟩
  have hol : cr'.length = oth.length := by rw [← hoth, List.length_set]
  rw [hoth] at OB
  generalize hgw : w11.setCell ⟨g5, k2, none⟩ (.int .u8 (c.toNat : Int)) = w13 at OB BB ⊢
  have MO : Made w w13 5 (.slice (some ⟨g5, 0, none⟩) cr'.length cap5) (oth.map vB) := ⟨by rw [List.length_map, ← hol]; exact own_base OB B10.size, bel B10 BB⟩
  have Mf := Mf.later BB
  have MC := MC.later BB
  have MB := MB.later BB
  have ML := ML.later BB
  have HOL := Lib.hid hol
  have HM13 := Lib.hid (And.intro Mf (And.intro MC (And.intro MB (And.intro ML MO))))
  clear hgw hoth OB BB B11 O11 hst hcx hfx5 hol MF B10
  -- the length
  go_wp2_with fail
  refine (around_any len' 4294967296 (by omega) HLEN.out.1 HLEN.out.2 (by omega) _).mono ?_
  rintro e w14 ⟨rfl, rfl⟩
  obtain ⟨N, hN, hN2⟩ : ∃ N : Nat, around len' 4294967296 = (N : Int) ∧ N < 4294967296 := by
    have h1 := around_lo len' 4294967296 (by omega)
    have h2 := around_hi len' 4294967296 (by omega)
    exact ⟨(around len' 4294967296).toNat, by omega, by omega⟩
  rw [hN]
  clear hN
  have B13 := MO.2
  go_upto_region 12 with fail
  go_cut [19] from 77 to 88 (fun gv wx => ∃ q : List UInt8, q.length = 4 ∧ Made w13 wx 5 gv (q.map vB))
  case first =>
    obtain ⟨z0, hz0⟩ := wrapB (N : Int)
    go_wp2_with fail
    go_meet
    obtain ⟨z1, hz1⟩ := byteOf ((N : Int) / 256 % 256) (by omega) (by omega)
    obtain ⟨z2, hz2⟩ := byteOf ((N : Int) / 65536 % 256) (by omega) (by omega)
    obtain ⟨z3, hz3⟩ := byteOf ((N : Int) / 16777216) (by omega) (by omega)
    rw [hz1, hz2, hz3]
    exact ⟨[z0, z1, z2, z3], rfl, own_lit1 w13 [vB z0, vB z1, vB z2, vB z3] _ 4 rfl (by unfold maxLen; omega), (Below.refl _ _).alloc (Nat.le_refl _) _⟩
  case rest =>
  obtain ⟨q, hq, MG⟩ := hcut
  rename World => w15
  have Mf := Mf.later MG.2
  have MC := MC.later MG.2
  have MB := MB.later MG.2
  have ML := ML.later MG.2
  have MO := MO.later MG.2
  have RN := Rv.one w15 (.int .i64 (N : Int)) 3
  go_wp2_with fail
  refine (rsum_any _ _ [(N : Int)] _ (by simpa using RN) (by decide) (by simp)).mono ?_
  rintro e w16 ⟨rfl, B16⟩
  have B16 := bel ((Below.refl _ w15).alloc (Nat.le_refl _) (.cells #[.int .i64 (N : Int)] 3)) B16
  have Mf := Mf.later B16
  have MC := MC.later B16
  have MB := MB.later B16
  have ML := ML.later B16
  have MO := MO.later B16
  have MG := MG.later B16
  obtain ⟨sn, hsn⟩ : ∃ sn, (sumI lenL [(N : Int)]).toNat = sn := ⟨_, rfl⟩
  have hsn64 : sn < 18446744073709551616 := by rw [← hsn]; exact (sumI lenL [(N : Int)]).isLt
  have hsn' : (sumI (ByteArray.mk #[108, 101, 110, 103, 116, 104]).data.toList [(N : Int)]).toNat = sn := hsn
  rw [hsn']
  clear hsn hsn' B16 RN
  go_wp2_with fail
  go_loopw [19, 21] (fun gv iv wr => ∃ (i : Nat) (q : List UInt8), iv = .int .i64 (i : Int) ∧ i ≤ 8 ∧ q.length = 4 + i ∧ Made w13 wr 5 gv (q.map vB)) (fun _ iv _ => 8 - (intOf iv).toNat)
  case atStart => exact ⟨0, q, by first | rfl | trivial, by omega, hq, MG⟩
  case round =>
    obtain ⟨i, q, rfl, hi, hql, MG⟩ := hrel
    have HQL := Lib.hid hql
    clear hql
    by_cases hlt : i < 8
    · have hi5 : IntKind.i64.wrap ((8 : Int) * (i : Int)) = 8 * (i : Int) := by rw [IntKind.wrap_i64]; omega
      have hi6 : (0 : Int) ≤ 8 * (i : Int) := by omega
      obtain ⟨z, hz⟩ := byteOf ((sn : Int) / 2 ^ (8 * i) % 256) (Int.emod_nonneg _ (by decide)) (Int.emod_lt_of_pos _ (by decide))
      have HZ := Lib.hid hz
      clear hz
      have OG := MG.1.alloc (.cells #[.int .u8 ((sn : Int) / 2 ^ (8 * i) % 256)] 5)
      have hsz := MG.2.size
      have RZ := Rv.one wr (.int .u8 ((sn : Int) / 2 ^ (8 * i) % 256)) 5
      rw [List.length_map] at OG
      have BG := MG.2.alloc hsz (.cells #[.int .u8 ((sn : Int) / 2 ^ (8 * i) % 256)] 5)
      go_wp2_with (at_builtin; go_loud (refine wpList_app2 _ rfl _ _ rfl Try.elB w13.heap.size _ _ _ rfl OG _ 1 _ rfl RZ rfl (ones1 _ rfl) (by have := HQL.out; omega) (by simp; omega) ?_; intro v2 w2 O2 g2 _; refine later ?_))
      have BG := BG.grown g2 BG.size (fun g hg => (OG.lt g hg).1)
      refine Later.in ?_
      go_wp2_with fail
      go_roundw
      case rel => exact ⟨i + 1, q ++ [z], by go_num, by omega, by rw [List.length_append, HQL.out]; rfl, by rw [HZ.out] at O2; rw [List.length_map, List.length_append, List.map_append]; exact O2, BG⟩
      case measure => simp [intOf]; omega
    · obtain rfl : i = 8 := by omega
      rw [show ((8 : Nat) : Int) = (8 : Int) from rfl]
      obtain ⟨aL, kL, rfl, _, _⟩ := ML.rvB.opened
      obtain ⟨aG, kG, rfl, _, _⟩ := MG.rvB.opened
      have hcl1 : 1 ≤ cr'.length := by omega
      go_upto_region 18 with fail
      go_cut [22] from 104 to 125 (fun av wx => ∃ H : Nat, av = .slice (some ⟨H, 0, none⟩) 8 8 ∧ Below w.heap.size w wx ∧ ∀ j, j < 8 → ∃ (a : Option Addr) (cap : Nat) (bs : List UInt8), wx.cell? ⟨H, j, none⟩ = some (.slice a bs.length cap) ∧ RowG wx a cap bs)
      case first =>
        have MG2 := MG.2.drew
        have Mf := HM13.out.1.later MG2
        have MC := HM13.out.2.1.later MG2
        have MB := HM13.out.2.2.1.later MG2
        have ML := HM13.out.2.2.2.1.later MG2
        have MO := HM13.out.2.2.2.2.later MG2
        have MG := Made.up HM13.out.1.2 (MG.later (Below.refl _ _).drew)
        refine wp_region_any (by kernel_rfl) ?_
        change wpAny _ _ _ _ _ _ _ (World.drew _)
        refine wpAny_do 0 104 rfl rfl (by kernel_rfl) (by kernel_rfl) (by kernel_rfl) (fun _ _ _ _ _ h => h) (by kernel_rfl) (by intro w; go_simp; try with_reducible rfl) ?_
        simp only [List.setIfInBounds_toArray, List.set_cons_succ, List.set_cons_zero]
        refine wpAny_do 1 105 rfl rfl (by kernel_rfl) (by kernel_rfl) (by kernel_rfl) (fun _ _ _ _ _ h => h) (by kernel_rfl) (by intro w; go_simp; try with_reducible rfl) ?_
        simp only [List.setIfInBounds_toArray, List.set_cons_succ, List.set_cons_zero]
        refine wpAny_do 2 106 rfl rfl (by kernel_rfl) (by kernel_rfl) (by kernel_rfl) (fun _ _ _ _ _ h => h) (by kernel_rfl) (by intro w; go_simp; try with_reducible rfl) ?_
        simp only [List.setIfInBounds_toArray, List.set_cons_succ, List.set_cons_zero]
        refine wpAny_do 3 107 rfl rfl (by kernel_rfl) (by kernel_rfl) (by kernel_rfl) (fun _ _ _ _ _ h => h) (by kernel_rfl) (by intro w; go_simp; try with_reducible rfl) ?_
        simp only [List.setIfInBounds_toArray, List.set_cons_succ, List.set_cons_zero]
        refine wpAny_do 4 108 rfl rfl (by kernel_rfl) (by kernel_rfl) (by kernel_rfl) (fun _ _ _ _ _ h => h) (by kernel_rfl) (by intro w; go_simp; try with_reducible rfl) ?_
        simp only [List.setIfInBounds_toArray, List.set_cons_succ, List.set_cons_zero]
        refine wpAny_do 6 110 rfl rfl (by kernel_rfl) (by kernel_rfl) (by kernel_rfl) (fun _ _ _ _ _ h => h) (by kernel_rfl) (by intro w; go_simp; try with_reducible rfl) ?_
        simp only [List.setIfInBounds_toArray, List.set_cons_succ, List.set_cons_zero]
        refine wpAny_do 9 113 rfl rfl (by kernel_rfl) (by kernel_rfl) (by kernel_rfl) (fun _ _ _ _ _ h => h) (by kernel_rfl) (by intro w; go_simp; try with_reducible rfl) ?_
        simp only [List.setIfInBounds_toArray, List.set_cons_succ, List.set_cons_zero]
        refine wpAny_do 11 115 rfl rfl (by kernel_rfl) (by kernel_rfl) (by kernel_rfl) (fun _ _ _ _ _ h => h) (by kernel_rfl) (by intro w; go_simp; try with_reducible rfl) ?_
        simp only [List.setIfInBounds_toArray, List.set_cons_succ, List.set_cons_zero]
        refine wpAny_do 15 119 rfl rfl (by kernel_rfl) (by kernel_rfl) (by kernel_rfl) (fun _ _ _ _ _ h => h) (by kernel_rfl) (by intro w; go_simp; try with_reducible rfl) ?_
        simp only [List.setIfInBounds_toArray, List.set_cons_succ, List.set_cons_zero]
        refine wpAny_do 16 120 rfl rfl (by kernel_rfl) (by kernel_rfl) (by kernel_rfl) (fun _ _ _ _ _ h => h) (by kernel_rfl) (by intro w; go_simp; try with_reducible rfl) ?_
        simp only [List.setIfInBounds_toArray, List.set_cons_succ, List.set_cons_zero]
        refine wpAny_do 17 121 rfl rfl (by kernel_rfl) (by kernel_rfl) (by kernel_rfl) (fun _ _ _ _ _ h => h) (by kernel_rfl) (by intro w; go_simp; try with_reducible rfl) ?_
        simp only [List.setIfInBounds_toArray, List.set_cons_succ, List.set_cons_zero]
        have hw1 : IntKind.i64.wrap ((cr'.length : Int) - 1) = (cr'.length : Int) - 1 := by rw [IntKind.wrap_i64]; omega
        refine wpAny_do (v := .int .i64 ((cr'.length : Int) - 1)) 18 122 rfl rfl (by kernel_rfl) (by kernel_rfl) (by kernel_rfl) (fun _ _ _ _ _ h => h) (by kernel_rfl) (by intro w; go_simp; try with_reducible rfl) ?_
        simp only [List.setIfInBounds_toArray, List.set_cons_succ, List.set_cons_zero]
        have hs0 : ¬ (cr'.length : Int) < 1 := by omega
        have hs1 : 0 ≤ (cr'.length : Int) - 1 := by omega
        have hs2 : (cr'.length : Int) - 1 ≤ (kC : Int) := by omega
        have hs3 : ((cr'.length : Int) - 1).toNat = cr'.length - 1 := by omega
        refine wpAny_do (v := .slice aC (cr'.length - 1) kC) 19 123 rfl rfl (by kernel_rfl) (by kernel_rfl) (by kernel_rfl) (fun _ _ _ _ _ h => h) (by kernel_rfl) (by intro w; go_simp; try with_reducible rfl) ?_
        simp only [List.setIfInBounds_toArray, List.set_cons_succ, List.set_cons_zero]
        refine wpAny_letter fun T0 hT0 => ?_
        have hsz : T0.size = 166 := by rw [hT0]; rfl
        have e104 : T0[104]? = some (.slice af few.length kf) := by rw [hT0]; rfl
        have e105 : T0[105]? = some (.slice (some ⟨g4, 0, none⟩) fr.length cap4) := by rw [hT0]; rfl
        have e106 : T0[106]? = some (.slice aL less.length kL) := by rw [hT0]; rfl
        have e107 : T0[107]? = some (.slice aG q.length kG) := by rw [hT0]; rfl
        have e108 : T0[108]? = some (.slice af few.length kf) := by rw [hT0]; rfl
        have e110 : T0[110]? = some (.slice (some ⟨g5, 0, none⟩) cr'.length cap5) := by rw [hT0]; rfl
        have e113 : T0[113]? = some (.slice aC cr'.length kC) := by rw [hT0]; rfl
        have e115 : T0[115]? = some (.int .u8 (c.toNat : Int)) := by rw [hT0]; rfl
        have e123 : T0[123]? = some (.slice aC (cr'.length - 1) kC) := by rw [hT0]; rfl
        have HT0 := Lib.hid hT0
        clear hT0
        generalize hW0 : World.drew wr = W0 at Mf MC MB ML MO MG MG2 ⊢
        clear hW0
        refine wpAny_plan (planD W0 (bsD few oth cr' c)) (n := 23) (lf := #[true, true, true, true, true, true, true, true, true, true, true, true, true, true, true, true, true, true, true, true, true, false, false]) (W0 := W0) (T0 := T0) 2 rfl (by simp [planD]) (fun i hi => by simp [planD] at hi; omega) (by kernel_rfl) (by kernel_rfl) rfl (by kernel_rfl) (by kernel_rfl) ?step ?fin 8 _ T0 W0 (by kernel_rfl) (RSt.start _ W0 T0 rfl (by kernel_rfl))
        case step =>
          intro l T W i o h hS ho hlf haf K hK
          have hi2 : i = 5 ∨ i = 7 ∨ i = 8 ∨ i = 10 ∨ i = 12 ∨ i = 13 ∨ i = 14 ∨ i = 20 := by simpa [planD] using hS
          rcases hi2 with rfl | rfl | rfl | rfl | rfl | rfl | rfl | rfl
          · cases ho
            have t108 := (h.keep 108 (by simp [planD])).trans e108
            clear e104 e105 e106 e107 e108 e110 e113 e115 e123 HT0
            go_simp
            refine (framed_any _ few W (Mf.later h.bel).rvB (by omega)).mono ?_
            rintro e W' ⟨v, rfl, M⟩
            exact hK _ _ (planD_new h 5 (by simp) hlf hsz (fun e => by cases e) M.2 (fun b hb => M.1.lt b hb) M.rvB)
          · cases ho
            have t110 := (h.keep 110 (by simp [planD])).trans e110
            clear e104 e105 e106 e107 e108 e110 e113 e115 e123 HT0
            have RO := (MO.later h.bel).rvB
            rw [← HOL.out] at RO
            go_simp
            have hfo := framed_any (.slice (some ⟨g5, 0, none⟩) cr'.length cap5) oth W (by rw [← HOL.out]; exact RO) (by rw [← HOL.out]; omega)
            refine hfo.mono ?_
            rintro e W' ⟨v, rfl, M⟩
            exact hK _ _ (planD_new h 7 (by simp) hlf hsz (fun e => by cases e) M.2 (fun b hb => M.1.lt b hb) M.rvB)
          · cases ho
            clear e104 e105 e106 e107 e108 e110 e113 e115 e123 HT0
            go_simp
            exact hK _ _ (planD_new h 8 (by simp) hlf hsz (fun e => by cases e) ((Below.refl _ W).alloc (Nat.le_refl _) _) (fun b hb => by cases hb; exact ⟨Nat.le_refl _, by simp⟩) (own_base (own_empty W _) h.bel.size))
          · cases ho
            have t113 := (h.keep 113 (by simp [planD])).trans e113
            clear e104 e105 e106 e107 e108 e110 e113 e115 e123 HT0
            have hl8 := after_of haf 8 (by kernel_rfl)
            obtain ⟨u, hu, hO⟩ := planD_own h 8 10 (.inl ⟨rfl, rfl⟩) hl8 hlf
            refine step_appN rfl _ _ rfl Try.elB W0.heap.size u 0 [] (evalT hu) hO _ cr'.length _ (evalT t113) (MC.later h.bel).rvB (by simp) (ones_B _) (by omega) h.bel.size ?_
            intro v W' hown hg hs
            rw [Nat.zero_add, List.nil_append] at hown
            exact hK _ _ (planD_app h 10 8 (.inl ⟨rfl, rfl⟩) hl8 hlf (fun e => by cases e) hsz hu hg hs (fun b hb => (hown.lt b hb).2) hown)
          · cases ho
            have t115 := (h.keep 115 (by simp [planD])).trans e115
            clear e104 e105 e106 e107 e108 e110 e113 e115 e123 HT0
            go_simp
            exact hK _ _ (planD_new h 12 (by simp) hlf hsz (fun e => by cases e) ((Below.refl _ W).alloc (Nat.le_refl _) _) (fun b hb => by cases hb; exact ⟨Nat.le_refl _, by simp⟩) (Rv.one W (vB c) _))
          · cases ho
            clear e104 e105 e106 e107 e108 e110 e113 e115 e123 HT0
            have hl10 := after_of haf 10 (by kernel_rfl)
            have hl12 := after_of haf 12 (by kernel_rfl)
            obtain ⟨u, hu, hO⟩ := planD_own h 10 13 (.inr ⟨rfl, rfl⟩) hl10 hlf
            obtain ⟨x, hx, _, hX⟩ := planD_rd h 12 (by simp) hl12
            refine step_appN rfl _ _ rfl Try.elB W0.heap.size u cr'.length (cr'.map vB) (evalT hu) hO _ 1 [vB c] (evalT hx) hX rfl (ones1 _ rfl) (by omega) h.bel.size ?_
            intro v W' hown hg hs
            have hR : Rv W' v (cr' ++ [c]).length ((cr' ++ [c]).map vB) := by
              have := Rv.of_own hown
              rw [List.length_append, List.map_append]
              exact this
            exact hK _ _ (planD_app h 13 10 (.inr ⟨rfl, rfl⟩) hl10 hlf (fun _ => hl12) hsz hu hg hs (fun b hb => (hown.lt b hb).2) hR)
          · cases ho
            clear e104 e105 e106 e107 e108 e110 e113 e115 e123 HT0
            have hl13 := after_of haf 13 (by kernel_rfl)
            obtain ⟨x, hx, _, hX⟩ := planD_rd h 13 (by simp) hl13
            go_simp
            refine (framed_any x (cr' ++ [c]) W hX (by rw [List.length_append, List.length_singleton]; omega)).mono ?_
            rintro e W' ⟨v, rfl, M⟩
            exact hK _ _ (planD_new h 14 (by simp) hlf hsz (fun _ => hl13) M.2 (fun b hb => M.1.lt b hb) M.rvB)
          · cases ho
            have t123 := (h.keep 123 (by simp [planD])).trans e123
            clear e104 e105 e106 e107 e108 e110 e113 e115 e123 HT0
            have RC : Rv W (.slice aC (cr'.length - 1) kC) (cr'.length - 1) ((cr'.take (cr'.length - 1)).map vB) := by
              obtain ⟨_, _, e1, _, e2⟩ := (MC.later h.bel).rvB.firsts (cr'.length - 1) (by omega)
              cases e1
              rw [List.map_take]
              exact e2 _ rfl
            have htl : (cr'.take (cr'.length - 1)).length = cr'.length - 1 := by rw [List.length_take]; omega
            have hfo := framed_any (.slice aC (cr'.length - 1) kC) (cr'.take (cr'.length - 1)) W (by rw [htl]; exact RC) (by rw [htl]; omega)
            have HFO := Lib.hid hfo
            clear hfo htl RC
            go_simp
            refine HFO.out.mono ?_
            rintro e W' ⟨v, rfl, M⟩
            exact hK _ _ (planD_new h 20 (by simp) hlf hsz (fun e => by cases e) M.2 (fun b hb => M.1.lt b hb) M.rvB)
        case fin =>
          intro T W h
          obtain ⟨v5, t5, b5, R5⟩ := planD_rd h 5 (by simp) rfl
          obtain ⟨v7, t7, b7, R7⟩ := planD_rd h 7 (by simp) rfl
          obtain ⟨v14, t14, b14, R14⟩ := planD_rd h 14 (by simp) rfl
          obtain ⟨v20, t20, b20, R20⟩ := planD_rd h 20 (by simp) rfl
          obtain ⟨v8, t8, _, _⟩ := h.fact 8 (by simp [planD]) rfl
          obtain ⟨v10, t10, _, _⟩ := h.fact 10 (by simp [planD]) rfl
          obtain ⟨v12, t12, _, _⟩ := h.fact 12 (by simp [planD]) rfl
          obtain ⟨v13, t13, _, _⟩ := h.fact 13 (by simp [planD]) rfl
          have hT := frame_fold (fun k => 104 + k) [5, 7, 8, 10, 12, 13, 14, 20] T0 h.size (fun k hk => by have := h.size; simp at hk; omega) (fun j hj => h.keep j hj)
          simp only [planD, Nat.reduceAdd] at t5 t7 t14 t20 t8 t10 t12 t13
          simp only [List.foldl_cons, List.foldl_nil, Nat.reduceAdd, t5, t7, t14, t20, t8, t10, t12, t13, Option.getD_some] at hT
          rw [HT0.out] at hT
          simp only [List.setIfInBounds_toArray, List.set_cons_succ, List.set_cons_zero] at hT
          have hB := h.bel
          clear t5 t7 t14 t20 t8 t10 t12 t13 h e104 e105 e106 e107 e108 e110 e113 e115 e123 HT0
          subst hT
          obtain ⟨a5, c5, rfl, _, _⟩ := R5.opened
          obtain ⟨a7, c7, rfl, _, _⟩ := R7.opened
          obtain ⟨a14, c14, rfl, _, _⟩ := R14.opened
          obtain ⟨a20, c20, rfl, _, _⟩ := R20.opened
          refine wpAny_call 21 rfl (by kernel_rfl) (by kernel_rfl) (fun K hK => ?_)
          go_simp
          refine hK _ _ ?_
          clear hK
          try simp only [Act.put, List.setIfInBounds_toArray, List.set_cons_zero, List.set_cons_succ]
          refine wpAny_do 22 22 rfl rfl (by kernel_rfl) (by kernel_rfl) (by kernel_rfl) (fun _ _ _ _ _ h => h) (by kernel_rfl) (by intro w; go_simp; try with_reducible rfl) ?_
          try simp only [List.setIfInBounds_toArray, List.set_cons_succ, List.set_cons_zero]
          refine ⟨by kernel_rfl, ?_⟩
          go_wp2_with fail
          go_meet
          have hB0 := bel Mf.2 hB
          refine ⟨W.heap.size, rfl, hB0.alloc hB0.size _, fun j hj => ?_⟩
          have G0 := RowG.made (Mf.later hB) rfl (by omega)
          have G1 := RowG.made (MB.later hB) HBL.out (by have := HBL.out; omega)
          have G2 := RowG.made (ML.later hB) rfl (by omega)
          have G3 := RowG.made (MG.later hB) rfl (by have := HQL.out; omega)
          have G4 : RowG W a5 c5 (bsD few oth cr' c 5) := ⟨R5, fun b hb => (b5 b hb).2, by show (framedP few).length ≤ _; rw [framedP_len]; omega⟩
          have G5 : RowG W a7 c7 (bsD few oth cr' c 7) := ⟨R7, fun b hb => (b7 b hb).2, by show (framedP oth).length ≤ _; rw [framedP_len]; have := HOL.out; omega⟩
          have G6 : RowG W a14 c14 (bsD few oth cr' c 14) := ⟨R14, fun b hb => (b14 b hb).2, by show (framedP (cr' ++ [c])).length ≤ _; rw [framedP_len, List.length_append, List.length_singleton]; omega⟩
          have G7 : RowG W a20 c20 (bsD few oth cr' c 20) := ⟨R20, fun b hb => (b20 b hb).2, by show (framedP (cr'.take (cr'.length - 1))).length ≤ _; rw [framedP_len, List.length_take]; omega⟩
          have BA : ∀ o : Obj, Below W.heap.size W (W.alloc o) := fun o => (Below.refl _ _).alloc (Nat.le_refl _) o
          rw [HBL.out] at *
          match j, hj with
          | 0, _ => exact ⟨_, _, _, litCell W [_, _, _, _, _, _, _, _] _ 0 _ rfl, G0.later (BA _)⟩
          | 1, _ => exact ⟨_, _, _, litCell W [_, _, _, _, _, _, _, _] _ 1 _ rfl, G1.later (BA _)⟩
          | 2, _ => exact ⟨_, _, _, litCell W [_, _, _, _, _, _, _, _] _ 2 _ rfl, G2.later (BA _)⟩
          | 3, _ => exact ⟨_, _, _, litCell W [_, _, _, _, _, _, _, _] _ 3 _ rfl, G3.later (BA _)⟩
          | 4, _ => exact ⟨_, _, _, litCell W [_, _, _, _, _, _, _, _] _ 4 _ rfl, G4.later (BA _)⟩
          | 5, _ => exact ⟨_, _, _, litCell W [_, _, _, _, _, _, _, _] _ 5 _ rfl, G5.later (BA _)⟩
          | 6, _ => exact ⟨_, _, _, litCell W [_, _, _, _, _, _, _, _] _ 6 _ rfl, G6.later (BA _)⟩
          | 7, _ => exact ⟨_, _, _, litCell W [_, _, _, _, _, _, _, _] _ 7 _ rfl, G7.later (BA _)⟩
      case rest =>
      obtain ⟨H, rfl, BH, hall⟩ := hcut
      rename World => wx
      have HALL := Lib.hid hall
      clear hall HM13 HBL HOL HQL Mf MC MB ML MO MG
      unfold msgV
      go_wp2_with fail
      go_loopw [23] (fun iv W => ∃ i : Nat, iv = .int .i64 (i : Int) ∧ i ≤ 8 ∧ Below wx.heap.size wx W) (fun iv _ => 8 - (intOf iv).toNat)
      case atStart => exact ⟨0, by first | rfl | trivial, by omega, Below.refl _ _⟩
      case round =>
        rename World => W
        obtain ⟨i, rfl, hi, BW⟩ := hrel
        by_cases hi8 : i < 8
        · have hi8i : (i : Int) < 8 := by omega
          obtain ⟨a, cap, bs, hcell, G⟩ := HALL.out i hi8
          have hHl := World.block_lt_of_cell? wx _ hcell
          have c1 := cellBelow hcell BW hHl
          have GW := G.later BW
          have hlen := G.len
          have HDE := Lib.hid (decode_any a cap bs W GW.rv (by omega))
          obtain ⟨mm, hmm⟩ : ∃ mm, (decP bs).1 = mm := ⟨_, rfl⟩
          obtain ⟨d1, hd1⟩ : ∃ d, (decP bs).2.1 = d := ⟨_, rfl⟩
          obtain ⟨d2, hd2⟩ : ∃ d, (decP bs).2.2 = d := ⟨_, rfl⟩
          have hde := HDE.out
          have hmd := fun (W : World) (h : RowG W a cap bs) => mdecode_any a cap bs W h.rv h.lo (by have := h.len; omega)
          unfold DePost at hde hmd
          rw [hmm, hd1, hd2] at hde
          simp only [hmm, hd1, hd2] at hmd
          have HDE := Lib.hid hde
          have HMD := Lib.hid hmd
          clear hde hmd hmm hd1 hd2
          go_wp2_with fail
          refine HDE.out.mono ?_
          rintro e w1 ⟨x, rfl, ⟨z1, z2, z3, z4, rfl, M1, l1, l2⟩, B1⟩
          unfold msgV
          have B2 := (bel BW B1).alloc (bel BW B1).size (.cells #[.int .i64 mm.k, .int .i64 mm.c, .int .i64 mm.v, .int .i64 mm.o, .slice z1 mm.body.length z3, .slice z2 mm.fnd.length z4] 33)
          have c2 := cellBelow hcell B2 hHl
          have C1 : MCell (w1.alloc (.cells #[.int .i64 mm.k, .int .i64 mm.c, .int .i64 mm.v, .int .i64 mm.o, .slice z1 mm.body.length z3, .slice z2 mm.fnd.length z4] 33)) w1.heap.size 0 mm z1 z2 z3 z4 := MCell.one (World.alloc_heap_new w1 _)
          have N1 := M1.below ((Below.refl _ w1).alloc (Nat.le_refl _) (.cells #[.int .i64 mm.k, .int .i64 mm.c, .int .i64 mm.v, .int .i64 mm.o, .slice z1 mm.body.length z3, .slice z2 mm.fnd.length z4] 33))
          clear M1 l1 l2 HDE
          go_wp2_with fail
          refine (HMD.out _ (G.later B2)).mono ?_
          rintro e w3 ⟨x, rfl, ⟨y1, y2, y3, y4, rfl, M3, _, _⟩, B3⟩
          unfold msgV
          have B4 := (bel B2 B3).alloc (bel B2 B3).size (.cells #[.int .i64 mm.k, .int .i64 mm.c, .int .i64 mm.v, .int .i64 mm.o, .slice y1 mm.body.length y3, .slice y2 mm.fnd.length y4] 27)
          have C2 : MCell (w3.alloc (.cells #[.int .i64 mm.k, .int .i64 mm.c, .int .i64 mm.v, .int .i64 mm.o, .slice y1 mm.body.length y3, .slice y2 mm.fnd.length y4] 27)) w3.heap.size 0 mm y1 y2 y3 y4 := MCell.one (World.alloc_heap_new w3 _)
          have C1 := (C1.later B3).later ((Below.refl _ w3).alloc (Nat.le_refl _) (.cells #[.int .i64 mm.k, .int .i64 mm.c, .int .i64 mm.v, .int .i64 mm.o, .slice y1 mm.body.length y3, .slice y2 mm.fnd.length y4] 27))
          have N1 := (N1.below B3).below ((Below.refl _ w3).alloc (Nat.le_refl _) (.cells #[.int .i64 mm.k, .int .i64 mm.c, .int .i64 mm.v, .int .i64 mm.o, .slice y1 mm.body.length y3, .slice y2 mm.fnd.length y4] 27))
          have N2 := M3.below ((Below.refl _ w3).alloc (Nat.le_refl _) (.cells #[.int .i64 mm.k, .int .i64 mm.c, .int .i64 mm.v, .int .i64 mm.o, .slice y1 mm.body.length y3, .slice y2 mm.fnd.length y4] 27))
          have hq1 : ((d1 : Int) != (d1 : Int)) = false := by simp
          have hq2 : (d2 != d2) = false := by simp
          clear HMD M3 c1 c2 hcell GW G hlen
          go_upto_region 24 with fail
          generalize hgw : w3.alloc (.cells #[.int .i64 mm.k, .int .i64 mm.c, .int .i64 mm.v, .int .i64 mm.o, .slice y1 mm.body.length y3, .slice y2 mm.fnd.length y4] 27) = W5 at B4 C1 C2 N1 N2 ⊢
          generalize w1.heap.size = h1 at C1 ⊢
          generalize w3.heap.size = h2 at C2 ⊢
          clear hgw B2 B3
          have hMK : ∀ W' : World, Below W5.heap.size W5 W' → (W'.cell? ⟨h1, 0, none⟩ = some (.int .i64 mm.k) ∧ W'.cell? ⟨h1, 1, none⟩ = some (.int .i64 mm.c) ∧ W'.cell? ⟨h1, 2, none⟩ = some (.int .i64 mm.v) ∧ W'.cell? ⟨h1, 3, none⟩ = some (.int .i64 mm.o) ∧ W'.cell? ⟨h1, 4, none⟩ = some (.slice z1 mm.body.length z3) ∧ W'.cell? ⟨h1, 5, none⟩ = some (.slice z2 mm.fnd.length z4) ∧ W'.cell? ⟨h2, 0, none⟩ = some (.int .i64 mm.k) ∧ W'.cell? ⟨h2, 1, none⟩ = some (.int .i64 mm.c) ∧ W'.cell? ⟨h2, 2, none⟩ = some (.int .i64 mm.v) ∧ W'.cell? ⟨h2, 3, none⟩ = some (.int .i64 mm.o) ∧ W'.cell? ⟨h2, 4, none⟩ = some (.slice y1 mm.body.length y3) ∧ W'.cell? ⟨h2, 5, none⟩ = some (.slice y2 mm.fnd.length y4)) ∧ Below W5.heap.size W5 W' := fun W' B => by
            have Zc := C1.later B
            have Xc := C2.later B
            exact ⟨⟨Zc.k0, Zc.k1, Zc.k2, Zc.k3, Zc.k4, Zc.k5, Xc.k0, Xc.k1, Xc.k2, Xc.k3, Xc.k4, Xc.k5⟩, B⟩
          have HMK := Lib.hid hMK
          have hpl := fun W : World => plain_any mm z1 z2 z3 z4 W
          have hsm := fun (W : World) (h1 : Cells6 W mm z1 z2 z3 z4) (h2 : Cells6 W mm y1 y2 y3 y4) => same_refl mm z1 z2 y1 y2 z3 z4 y3 y4 W h1 h2
          unfold msgV at hpl hsm
          have HPL := Lib.hid hpl
          have HSM := Lib.hid hsm
          have hBr := Below.refl W5.heap.size W5
          clear hMK hpl hsm C1 C2
          go_region_held3 (fun W' => (W'.cell? ⟨h1, 0, none⟩ = some (.int .i64 mm.k) ∧ W'.cell? ⟨h1, 1, none⟩ = some (.int .i64 mm.c) ∧ W'.cell? ⟨h1, 2, none⟩ = some (.int .i64 mm.v) ∧ W'.cell? ⟨h1, 3, none⟩ = some (.int .i64 mm.o) ∧ W'.cell? ⟨h1, 4, none⟩ = some (.slice z1 mm.body.length z3) ∧ W'.cell? ⟨h1, 5, none⟩ = some (.slice z2 mm.fnd.length z4) ∧ W'.cell? ⟨h2, 0, none⟩ = some (.int .i64 mm.k) ∧ W'.cell? ⟨h2, 1, none⟩ = some (.int .i64 mm.c) ∧ W'.cell? ⟨h2, 2, none⟩ = some (.int .i64 mm.v) ∧ W'.cell? ⟨h2, 3, none⟩ = some (.int .i64 mm.o) ∧ W'.cell? ⟨h2, 4, none⟩ = some (.slice y1 mm.body.length y3) ∧ W'.cell? ⟨h2, 5, none⟩ = some (.slice y2 mm.fnd.length y4)) ∧ Below W5.heap.size W5 W')
            (first | exact HMK.out _ hBn | exact HMK.out _ hBr.drew)
            (first
              | (go_at_call 17; have hS := (show (_ ∧ Below W5.heap.size W5 _) by assumption).2; refine (HPL.out _).mono ?_; rintro e u6 ⟨rfl, B6⟩; have hBn := bel hS B6)
              | (go_at_call 16; have hS := (show (_ ∧ Below W5.heap.size W5 _) by assumption).2; refine (HSM.out _ (N1.below hS) (N2.below hS)).mono ?_; rintro e u7 ⟨rfl, B7⟩; have hBn := bel hS B7))
          go_wp2_with fail
          go_roundw
          case rel => exact ⟨i + 1, by go_num, by omega, bel B4 hBn⟩
          case measure => simp [intOf]; omega
        · obtain rfl : i = 8 := by omega
          go_wp2_with fail
          refine (plives_any _).mono ?_
          rintro e w9 ⟨rfl, B9⟩
          go_wp2_with fail
          go_ret
          exact ⟨rfl, bel (bel BH BW) B9⟩
end Go.Proofs.Ytadhghikanjkeaa
