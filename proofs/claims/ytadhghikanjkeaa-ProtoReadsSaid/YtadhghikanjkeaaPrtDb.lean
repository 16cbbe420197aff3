/- The model's Decode. -/
import Derived.Test.YtadhghikanjkeaaPrtDa
import Derived.Deep.Cut
import Derived.Deep.CutRange
import Derived.BigQuiet
import Derived.Deep.QuietTactic
namespace Go.Proofs.Ytadhghikanjkeaa
open Go.RowKit

set_option maxRecDepth 20000 in
set_option maxHeartbeats 4000000 in
theorem mdecode_any (ab : Option Addr) (cb : Nat) (b : List UInt8) (w : World) (hb : Rv w (.slice ab b.length cb) b.length (b.map vB)) (hlow : Low w.heap.size (.slice ab b.length cb)) (hl : b.length ≤ 100000000) :
    Calls Try.prog 21 #[.slice ab b.length cb] w (DePost w b) := by
  have I0 := DmI.start w
  unfold msgR at I0
  go_enter Try.func21, Try.ntmps21
  by_cases h12 : b.length < 12
  · have hd : decP b = (Msg.zero, 0, 3) := by unfold decP; rw [if_pos h12]
    have HD := Lib.hid hd
    clear hd
    have h12i : (b.length : Int) < 12 := by omega
    have z0 := I0.res.k0
    have z1 := I0.res.k1
    have z2 := I0.res.k2
    have z3 := I0.res.k3
    have z4 := I0.res.k4
    have z5 := I0.res.k5
    have zf := fun j => I0.res.fz j
    have HI := Lib.hid I0
    clear I0
    go_wp2_with fail
    refine bodyPost_ret (results_row_tmp2 rfl _ _ w.heap.size _ _ _ _ rfl HI.out.res.blk rfl rfl rfl) rfl ?_
    unfold DePost
    rw [HD.out]
    exact ⟨_, rfl, MsgAt.zero _ _, HI.out.bel⟩
  · have h12i : ¬ (b.length : Int) < 12 := by omega
    obtain ⟨e0, e1, e2, e3, he⟩ := four (b.take 4) (by rw [List.length_take]; omega)
    have hget : ∀ (j : Nat) (u : UInt8), [e0, e1, e2, e3][j]? = some u → b[j]? = some u := by
      intro j u hj
      have hj4 : j < 4 := (List.getElem?_eq_some_iff.1 hj).1
      rw [← hj, ← he, List.getElem?_take_of_lt hj4]
    obtain ⟨hlv, hlv2⟩ := leVal4 b e0 e1 e2 e3 he
    obtain ⟨g, off, rfl, _⟩ := hb.rd.cell (show (b.map vB)[0]? = some (vB e0) by rw [List.getElem?_map, hget 0 e0 rfl]; rfl)
    have hcell : ∀ (j : Nat) (u : UInt8), [e0, e1, e2, e3][j]? = some u → (w.alloc (.cells #[.int .i64 0, .int .i64 0, .int .i64 0, .int .i64 0, .slice none 0 0, .slice none 0 0] 27)).cell? ⟨g, off + j, none⟩ = some (vB u) := by
      intro j u hj
      obtain ⟨g', off', e', hc'⟩ := (hb.below I0.bel).rd.cell (show (b.map vB)[j]? = some (vB u) by rw [List.getElem?_map, hget j u hj]; rfl)
      cases e'
      exact hc'
    have c0 := hcell 0 e0 rfl
    have c1 := hcell 1 e1 rfl
    have c2 := hcell 2 e2 rfl
    have c3 := hcell 3 e3 rfl
    rw [Nat.add_zero] at c0
    unfold vB at c0 c1 c2 c3
    have i0 : (0 : Int) < (b.length : Int) := by omega
    have i1 : (1 : Int) < (b.length : Int) := by omega
    have i2 : (2 : Int) < (b.length : Int) := by omega
    have i3 : (3 : Int) < (b.length : Int) := by omega
    have hcb : b.length ≤ cb := by obtain ⟨_, _, ee, hx, _⟩ := hb; cases ee; exact hx
    have h0 := e0.toNat_lt
    have h1 := e1.toNat_lt
    have h2 := e2.toNat_lt
    have h3 := e3.toNat_lt
    obtain ⟨N, hN⟩ : ∃ N, leVal (b.take 4) = N := ⟨_, rfl⟩
    rw [hN] at hlv hlv2
    have HN := Lib.hid hN
    have HLV := Lib.hid hlv
    clear hget hcell hN hlv he
    have hb12 : 12 ≤ b.length := by omega
    go_wp2_with fail
    go_quiet (fail)
    rw [← HLV.out]
    have I1 := I0.drewN nq
    generalize hgw : (w.alloc (.cells #[.int .i64 0, .int .i64 0, .int .i64 0, .int .i64 0, .slice none 0 0, .slice none 0 0] 27)).drewN nq = W1 at I1 ⊢
    clear hgw I0 c0 c1 c2 c3 h0 h1 h2 h3 HLV
    have hR4 : ∀ W : World, Below w.heap.size w W → Rv W (.slice (some ⟨g, off + 4, none⟩) 8 (cb - 4)) 8 (((b.drop 4).take 8).map vB) := fun W h => rvCore (hb.below h) 4 8 (by omega) (by omega)
    have hcb4 : ¬ cb = 4 := by omega
    have hcbi : (12 : Int) ≤ (cb : Int) := by omega
    obtain ⟨h8, hh8⟩ : ∃ h8, (b.drop 4).take 8 = h8 := ⟨_, rfl⟩
    have hl8 : 8 = h8.length := by rw [← hh8, List.length_take, List.length_drop]; omega
    rw [hh8] at hR4
    have HR4 := Lib.hid hR4
    have HL8 := Lib.hid hl8
    have HH8 := Lib.hid hh8
    clear hR4 hl8 hh8
    go_upto_region 4 with fail
    go_cut [47] from 39 to 47 (fun sv wx => sv = .bool (decide (lenH (N : Int) ≠ h8)) ∧ DmI w wx)
    case first =>
          refine wp_region_held_drew (S := fun W' => Below w.heap.size w W') (by kernel_rfl) I1.bel.drew (fun _ => ?_)
          have E := I1.drew
          generalize hgw : W1.drew = x0 at E ⊢
          clear hgw
          refine wpAnyH_do 5 44 rfl rfl (by kernel_rfl) (by kernel_rfl) (by kernel_rfl) (fun _ _ _ _ _ h => h) (by kernel_rfl) (fun W hS => by go_simp; try with_reducible rfl) E.bel ?_
          simp only [List.setIfInBounds_toArray, List.set_cons_succ, List.set_cons_zero]
          refine wpAnyH_do 6 45 rfl rfl (by kernel_rfl) (by kernel_rfl) (by kernel_rfl) (fun _ _ _ _ _ h => h) (by kernel_rfl) (fun W hS => by go_simp; try with_reducible rfl) E.bel ?_
          simp only [List.setIfInBounds_toArray, List.set_cons_succ, List.set_cons_zero]
          refine wpAnyH_do (v := .string ⟨h8.toArray⟩) 7 46 rfl rfl (by kernel_rfl) (by kernel_rfl) (by kernel_rfl) (fun _ _ _ _ _ h => h) (by kernel_rfl) (fun W hS => by have hcv := run_tostring _ _ _ _ Try.underlying23 Try.underlying5 Try.underlying9 _ h8 (by have := HR4.out _ hS; rw [HL8.out] at this; exact this); rw [← HL8.out] at hcv; go_simp) E.bel ?_
          simp only [List.setIfInBounds_toArray, List.set_cons_succ, List.set_cons_zero]
          refine wpAnyH_do 0 39 rfl rfl (by kernel_rfl) (by kernel_rfl) (by kernel_rfl) (fun _ _ _ _ _ h => h) (by kernel_rfl) (fun W hS => by go_simp; try with_reducible rfl) E.bel ?_
          simp only [List.setIfInBounds_toArray, List.set_cons_succ, List.set_cons_zero]
          refine wpAnyH_one 1 rfl (by kernel_rfl) (by kernel_rfl) (fun K hK => ?_)
          go_simp
          have E := E.later ((Below.refl _ _).alloc (Nat.le_refl _) (.cells #[.int .i64 (N : Int)] 3))
          have RN := Rv.one x0 (.int .i64 (N : Int)) 3
          refine hK _ _ E.bel ?_
          clear hK
          try simp only [Act.put, List.setIfInBounds_toArray, List.set_cons_zero, List.set_cons_succ]
          refine wpAnyH_one 2 rfl (by kernel_rfl) (by kernel_rfl) (fun K hK => ?_)
          go_simp
          refine (rsum_any _ _ [(N : Int)] _ (by simpa using RN) (by decide) (by simp)).mono ?_
          rintro e x2 ⟨rfl, B2⟩
          have E := E.later B2
          dsimp only
          refine hK _ _ E.bel ?_
          clear hK B2 RN
          try simp only [Act.put, List.setIfInBounds_toArray, List.set_cons_zero, List.set_cons_succ]
          refine wpAnyH_one 3 rfl (by kernel_rfl) (by kernel_rfl) (fun K hK => ?_)
          go_simp
          refine (low_any (sumI lenL [(N : Int)]).toNat 8 x2 (sumI lenL [(N : Int)]).isLt (by omega)).mono ?_
          rintro e x3 ⟨v3, rfl, M3⟩
          have E := E.later M3.2
          have R3 := M3.rvB
          obtain ⟨a3, k3, rfl, _, _⟩ := R3.opened
          dsimp only
          refine hK _ _ E.bel ?_
          clear hK M3
          try simp only [Act.put, List.setIfInBounds_toArray, List.set_cons_zero, List.set_cons_succ]
          refine wpAnyH_one 4 rfl (by kernel_rfl) (by kernel_rfl) (fun K hK => ?_)
          have hcv := run_tostring _ _ _ _ Try.underlying23 Try.underlying5 Try.underlying9 _ (lowL 8 (sumI lenL [(N : Int)]).toNat) R3
          go_simp
          refine hK _ _ E.bel ?_
          clear hK hcv R3
          try simp only [Act.put, List.setIfInBounds_toArray, List.set_cons_zero, List.set_cons_succ]
          refine wpAnyH_do 8 47 rfl rfl (by kernel_rfl) (by kernel_rfl) (by kernel_rfl) (fun _ _ _ _ _ h => h) (by kernel_rfl) (fun W hS => by go_simp; try with_reducible rfl) E.bel ?_
          simp only [List.setIfInBounds_toArray, List.set_cons_succ, List.set_cons_zero]
          refine wpAnyH_done (by kernel_rfl) ?_ _
          go_wp2_with fail
          go_meet
          refine ⟨?_, E⟩
          rw [ne_bool]
          rfl
    case rest =>
    obtain ⟨rfl, I2⟩ := hcut
    rename World => W2
    clear I1
    by_cases hne : lenH (N : Int) ≠ h8
    · rw [decide_eq_true hne]
      have hd : decP b = (Msg.zero, 0, 13) := by
        unfold decP
        simp only [HN.out, HH8.out]
        rw [if_neg h12, if_pos hne]
      have HD := Lib.hid hd
      clear hd hne
      have z0 := I2.res.k0
      have z1 := I2.res.k1
      have z2 := I2.res.k2
      have z3 := I2.res.k3
      have z4 := I2.res.k4
      have z5 := I2.res.k5
      have zf := fun j => I2.res.fz j
      have HI := Lib.hid I2
      clear I2
      go_wp2_with fail
      refine bodyPost_ret (results_row_tmp2 rfl _ _ w.heap.size _ _ _ _ rfl (set6 HI.out.res.blk _ _ _ _ _ _) rfl rfl rfl) rfl ?_
      unfold DePost
      rw [HD.out]
      exact ⟨_, rfl, MsgAt.zero _ _, bel6 HI.out.bel (Nat.le_refl _) _ _ _ _ _ _⟩
    rw [decide_eq_false hne]
    by_cases hbig : 1048576 < N
    · have hbi : (1048576 : Int) < (N : Int) := by omega
      have hd : decP b = (Msg.zero, 0, 4) := by
        unfold decP
        simp only [HN.out, HH8.out]
        rw [if_neg h12, if_neg hne, if_pos hbig]
      have HD := Lib.hid hd
      clear hd hne
      have z0 := I2.res.k0
      have z1 := I2.res.k1
      have z2 := I2.res.k2
      have z3 := I2.res.k3
      have z4 := I2.res.k4
      have z5 := I2.res.k5
      have zf := fun j => I2.res.fz j
      have HI := Lib.hid I2
      clear I2
      go_wp2_with fail
      refine bodyPost_ret (results_row_tmp2 rfl _ _ w.heap.size _ _ _ _ rfl (set6 HI.out.res.blk _ _ _ _ _ _) rfl rfl rfl) rfl ?_
      unfold DePost
      rw [HD.out]
      exact ⟨_, rfl, MsgAt.zero _ _, bel6 HI.out.bel (Nat.le_refl _) _ _ _ _ _ _⟩
    have hbi : ¬ (1048576 : Int) < (N : Int) := by omega
    by_cases hsh : b.length < N + 20
    · have hsi : (b.length : Int) < (N : Int) + 20 := by omega
      have hd : decP b = (Msg.zero, 0, 3) := by
        unfold decP
        simp only [HN.out, HH8.out]
        rw [if_neg h12, if_neg hne, if_neg hbig, if_pos hsh]
      have HD := Lib.hid hd
      clear hd hne
      have z0 := I2.res.k0
      have z1 := I2.res.k1
      have z2 := I2.res.k2
      have z3 := I2.res.k3
      have z4 := I2.res.k4
      have z5 := I2.res.k5
      have zf := fun j => I2.res.fz j
      have HI := Lib.hid I2
      clear I2
      go_wp2_with fail
      refine bodyPost_ret (results_row_tmp2 rfl _ _ w.heap.size _ _ _ _ rfl (set6 HI.out.res.blk _ _ _ _ _ _) rfl rfl rfl) rfl ?_
      unfold DePost
      rw [HD.out]
      exact ⟨_, rfl, MsgAt.zero _ _, bel6 HI.out.bel (Nat.le_refl _) _ _ _ _ _ _⟩
    have hsi : ¬ (b.length : Int) < (N : Int) + 20 := by omega
    have hRC : ∀ W : World, Below w.heap.size w W → Rv W (.slice (some ⟨g, off + 12, none⟩) N (cb - 12)) N (((b.drop 12).take N).map vB) := fun W h => rvCore (hb.below h) 12 N (by omega) (by omega)
    have hRT : ∀ W : World, Below w.heap.size w W → Rv W (.slice (some ⟨g, off + (12 + N), none⟩) 8 (cb - (12 + N))) 8 (((b.drop (12 + N)).take 8).map vB) := fun W h => rvCore (hb.below h) (12 + N) 8 (by omega) (by omega)
    obtain ⟨c, hc⟩ : ∃ c, (b.drop 12).take N = c := ⟨_, rfl⟩
    obtain ⟨t8, ht8⟩ : ∃ t8, (b.drop (12 + N)).take 8 = t8 := ⟨_, rfl⟩
    have hcl : N = c.length := by rw [← hc, List.length_take, List.length_drop]; omega
    have htl : 8 = t8.length := by rw [← ht8, List.length_take, List.length_drop]; omega
    rw [hc] at hRC
    rw [ht8] at hRT
    have hd : decP b = if coreH c ≠ t8 then (Msg.zero, (0 : Nat), (13 : Int)) else match decC c with
      | none => (Msg.zero, 0, 2)
      | some m => (m, N + 20, 0) := by
      unfold decP
      simp only [HN.out, HH8.out, hc, Nat.add_comm N 12, ht8]
      rw [if_neg h12, if_neg hne, if_neg hbig, if_neg hsh]
      rfl
    have HD := Lib.hid hd
    have HRC := Lib.hid hRC
    have HRT := Lib.hid hRT
    have HCL := Lib.hid hcl
    have HTL := Lib.hid htl
    have hcb12 : ¬ cb = 12 := by omega
    have hcbN : ¬ cb = 12 + N := by omega
    have hN0 : N ≤ 1048576 := by omega
    clear hd hRC hRT hcl htl hc ht8 hne HR4 HL8 HH8 hbi HN
    go_upto_region 11 with fail
    rw [show 12 + N - 12 = N from by omega]
    obtain rfl := HCL.out
    clear HCL
    go_cut [73] from 62 to 73 (fun sv wx => sv = .bool (decide (coreH c ≠ t8)) ∧ DmI w wx)
    case first =>
          refine wp_region_held_drew (S := fun W' => Below w.heap.size w W') (by kernel_rfl) I2.bel.drew (fun _ => ?_)
          have E := I2.drew
          generalize hgw : W2.drew = x0 at E ⊢
          clear hgw
          have hw12 : IntKind.i64.wrap (12 + (c.length : Int)) = 12 + (c.length : Int) := by rw [IntKind.wrap_i64]; omega
          have hw20 : IntKind.i64.wrap (20 + (c.length : Int)) = 20 + (c.length : Int) := by rw [IntKind.wrap_i64]; omega
          have q1 : 0 ≤ 20 + (c.length : Int) ∧ 20 + (c.length : Int) ≤ (cb : Int) := by omega
          have q2 : 0 ≤ 12 + (c.length : Int) ∧ 12 + (c.length : Int) ≤ max (20 + (c.length : Int)) 0 := by omega
          have t20 : (20 + (c.length : Int)).toNat = 20 + c.length := by omega
          have t12 : (12 + (c.length : Int)).toNat = 12 + c.length := by omega
          have e20 : 20 + c.length - (12 + c.length) = 8 := by omega
          refine wpAnyH_do 4 66 rfl rfl (by kernel_rfl) (by kernel_rfl) (by kernel_rfl) (fun _ _ _ _ _ h => h) (by kernel_rfl) (fun W hS => by go_simp; try with_reducible rfl) E.bel ?_
          simp only [List.setIfInBounds_toArray, List.set_cons_succ, List.set_cons_zero]
          refine wpAnyH_do 5 67 rfl rfl (by kernel_rfl) (by kernel_rfl) (by kernel_rfl) (fun _ _ _ _ _ h => h) (by kernel_rfl) (fun W hS => by go_simp; try with_reducible rfl) E.bel ?_
          simp only [List.setIfInBounds_toArray, List.set_cons_succ, List.set_cons_zero]
          refine wpAnyH_do 6 68 rfl rfl (by kernel_rfl) (by kernel_rfl) (by kernel_rfl) (fun _ _ _ _ _ h => h) (by kernel_rfl) (fun W hS => by go_simp; try with_reducible rfl) E.bel ?_
          simp only [List.setIfInBounds_toArray, List.set_cons_succ, List.set_cons_zero]
          refine wpAnyH_do 7 69 rfl rfl (by kernel_rfl) (by kernel_rfl) (by kernel_rfl) (fun _ _ _ _ _ h => h) (by kernel_rfl) (fun W hS => by go_simp; try with_reducible rfl) E.bel ?_
          simp only [List.setIfInBounds_toArray, List.set_cons_succ, List.set_cons_zero]
          refine wpAnyH_do 8 70 rfl rfl (by kernel_rfl) (by kernel_rfl) (by kernel_rfl) (fun _ _ _ _ _ h => h) (by kernel_rfl) (fun W hS => by go_simp; try with_reducible rfl) E.bel ?_
          simp only [List.setIfInBounds_toArray, List.set_cons_succ, List.set_cons_zero]
          refine wpAnyH_do (v := .slice (some ⟨g, off + (12 + c.length), none⟩) 8 (cb - (12 + c.length))) 9 71 rfl rfl (by kernel_rfl) (by kernel_rfl) (by kernel_rfl) (fun _ _ _ _ _ h => h) (by kernel_rfl) (fun W hS => by go_simp; try with_reducible rfl) E.bel ?_
          simp only [List.setIfInBounds_toArray, List.set_cons_succ, List.set_cons_zero]
          refine wpAnyH_do (v := .string ⟨t8.toArray⟩) 10 72 rfl rfl (by kernel_rfl) (by kernel_rfl) (by kernel_rfl) (fun _ _ _ _ _ h => h) (by kernel_rfl) (fun W hS => by have hcv := run_tostring _ _ _ _ Try.underlying23 Try.underlying5 Try.underlying9 _ t8 (by have := HRT.out _ hS; rw [HTL.out] at this; exact this); rw [← HTL.out] at hcv; go_simp) E.bel ?_
          simp only [List.setIfInBounds_toArray, List.set_cons_succ, List.set_cons_zero]
          refine wpAnyH_do 0 62 rfl rfl (by kernel_rfl) (by kernel_rfl) (by kernel_rfl) (fun _ _ _ _ _ h => h) (by kernel_rfl) (fun W hS => by go_simp; try with_reducible rfl) E.bel ?_
          simp only [List.setIfInBounds_toArray, List.set_cons_succ, List.set_cons_zero]
          refine wpAnyH_one 1 rfl (by kernel_rfl) (by kernel_rfl) (fun K hK => ?_)
          go_simp
          refine (rbytes_any _ _ c _ (HRC.out _ E.bel) (by decide) (by omega)).mono ?_
          rintro e x2 ⟨rfl, B2⟩
          have E := E.later B2
          dsimp only
          refine hK _ _ E.bel ?_
          clear hK B2
          try simp only [Act.put, List.setIfInBounds_toArray, List.set_cons_zero, List.set_cons_succ]
          refine wpAnyH_one 2 rfl (by kernel_rfl) (by kernel_rfl) (fun K hK => ?_)
          go_simp
          refine (low_any (bytesB msgL c).toNat 8 x2 (bytesB msgL c).isLt (by omega)).mono ?_
          rintro e x3 ⟨v3, rfl, M3⟩
          have E := E.later M3.2
          have R3 := M3.rvB
          obtain ⟨a3, k3, rfl, _, _⟩ := R3.opened
          dsimp only
          refine hK _ _ E.bel ?_
          clear hK M3
          try simp only [Act.put, List.setIfInBounds_toArray, List.set_cons_zero, List.set_cons_succ]
          refine wpAnyH_one 3 rfl (by kernel_rfl) (by kernel_rfl) (fun K hK => ?_)
          have hcv := run_tostring _ _ _ _ Try.underlying23 Try.underlying5 Try.underlying9 _ (lowL 8 (bytesB msgL c).toNat) R3
          go_simp
          refine hK _ _ E.bel ?_
          clear hK hcv R3
          try simp only [Act.put, List.setIfInBounds_toArray, List.set_cons_zero, List.set_cons_succ]
          refine wpAnyH_do 11 73 rfl rfl (by kernel_rfl) (by kernel_rfl) (by kernel_rfl) (fun _ _ _ _ _ h => h) (by kernel_rfl) (fun W hS => by go_simp; try with_reducible rfl) E.bel ?_
          simp only [List.setIfInBounds_toArray, List.set_cons_succ, List.set_cons_zero]
          refine wpAnyH_done (by kernel_rfl) ?_ _
          go_wp2_with fail
          go_meet
          refine ⟨?_, E⟩
          rw [ne_bool]
          rfl
    case rest =>
    obtain ⟨rfl, I3⟩ := hcut
    rename World => W3
    clear I2
    by_cases hne : coreH c ≠ t8
    · rw [decide_eq_true hne]
      have hd := HD.out
      rw [if_pos hne] at hd
      have HD := Lib.hid hd
      clear hd hne
      have z0 := I3.res.k0
      have z1 := I3.res.k1
      have z2 := I3.res.k2
      have z3 := I3.res.k3
      have z4 := I3.res.k4
      have z5 := I3.res.k5
      have zf := fun j => I3.res.fz j
      have HI := Lib.hid I3
      clear I3
      go_wp2_with fail
      refine bodyPost_ret (results_row_tmp2 rfl _ _ w.heap.size _ _ _ _ rfl (set6 HI.out.res.blk _ _ _ _ _ _) rfl rfl rfl) rfl ?_
      unfold DePost
      rw [HD.out]
      exact ⟨_, rfl, MsgAt.zero _ _, bel6 HI.out.bel (Nat.le_refl _) _ _ _ _ _ _⟩
    rw [decide_eq_false hne]
    have hd := HD.out
    rw [if_neg hne] at hd
    have HD := Lib.hid hd
    clear hd hne HRT HTL
    have hlo : Low w.heap.size (.slice (some ⟨g, off + 12, none⟩) c.length (cb - 12)) := fun q hq => hlow q hq
    obtain ⟨⟨x1, s1⟩, h1⟩ : ∃ p, rdI (.ok c) = p := ⟨_, rfl⟩
    obtain ⟨⟨x2, s2⟩, h2⟩ : ∃ p, rdI s1 = p := ⟨_, rfl⟩
    obtain ⟨⟨x3, s3⟩, h3⟩ : ∃ p, rdI s2 = p := ⟨_, rfl⟩
    obtain ⟨⟨x4, s4⟩, h4⟩ : ∃ p, rdI s3 = p := ⟨_, rfl⟩
    obtain ⟨⟨bs, s5⟩, h5⟩ : ∃ p, rdRaw s4 = p := ⟨_, rfl⟩
    obtain ⟨⟨n, s6⟩, h6⟩ : ∃ p, rdI s5 = p := ⟨_, rfl⟩
    have hhead : rdHead c = (⟨x1, x2, x3, x4, bs, []⟩, n, s6) := by unfold rdHead; simp only [h1, h2, h3, h4, h5, h6]
    have hd := HD.out
    rw [← decR_eq] at hd
    unfold decR at hd
    simp only [hhead] at hd
    have hn6 := (rdI_range s5)
    rw [h6] at hn6
    have hbsl := raw_le h1 h2 h3 h4 h5
    have HN6 := Lib.hid hn6
    have H1 := Lib.hid h1
    have H2 := Lib.hid h2
    have H3 := Lib.hid h3
    have H4 := Lib.hid h4
    have H5 := Lib.hid h5
    have H6 := Lib.hid h6
    have HD := Lib.hid hd
    have D0 : MdS w ((W3.alloc (.cells #[.slice (some ⟨g, off + 12, none⟩) c.length (cb - 12), .int .i64 0] 96)).alloc (.cells #[.int .i64 0, .int .i64 0, .int .i64 0, .int .i64 0, .slice none 0 0, .slice none 0 0] 27)) W3.heap.size (.ok c) 0 0 0 0 (.slice none 0 0) (.slice none 0 0) [] [] := by
      have B := ((Below.refl W3.heap.size W3).alloc (Nat.le_refl _) (.cells #[.slice (some ⟨g, off + 12, none⟩) c.length (cb - 12), .int .i64 0] 96)).alloc (by simp) (.cells #[.int .i64 0, .int .i64 0, .int .i64 0, .int .i64 0, .slice none 0 0, .slice none 0 0] 27)
      have I4 := I3.later B
      have hm := World.alloc_heap_new (W3.alloc (.cells #[.slice (some ⟨g, off + 12, none⟩) c.length (cb - 12), .int .i64 0] 96)) (.cells #[.int .i64 0, .int .i64 0, .int .i64 0, .int .i64 0, .slice none 0 0, .slice none 0 0] 27)
      rw [World.size_alloc] at hm
      exact ⟨I4.res, .ok ⟨(Below.heap_alloc _ _ _ (by simp)).trans (World.alloc_heap_new W3 _), HRC.out _ I4.bel, hlo⟩, ⟨hm⟩, World.ownsRow_nil _ _ _ _, World.ownsRow_nil _ _ _ _, (fun _ h => by cases h), I3.res.lt, I4.bel⟩
    have hRw := D0.lt
    clear hd h1 h2 h3 h4 h5 h6 hhead hlo hn6 I3
    go_wp2_with fail
    generalize hgw : (W3.alloc (.cells #[.slice (some ⟨g, off + 12, none⟩) c.length (cb - 12), .int .i64 0] 96)).alloc (.cells #[.int .i64 0, .int .i64 0, .int .i64 0, .int .i64 0, .slice none 0 0, .slice none 0 0] 27) = W4 at D0 ⊢
    generalize W3.heap.size = R at D0 hRw ⊢
    clear hgw
    refine (mint_eq (Nat.le_of_lt hRw) H1.out D0.rst).mono ?_
    rintro e w4 ⟨rfl, T, S⟩
    have D1 := D0.call T S
    have zf := fun j => D1.blk.fz j
    have z0 := D1.blk.k0
    have D1 := D1.set0 x1
    clear D0 T S
    go_wp2_with fail
    clear zf z0
    generalize hgw : w4.setCell ⟨R + 1, 0, none⟩ (.int .i64 x1) = W5 at D1 ⊢
    clear hgw
    refine (mint_eq (Nat.le_of_lt hRw) H2.out D1.rst).mono ?_
    rintro e w5 ⟨rfl, T, S⟩
    have D2 := D1.call T S
    have zf := fun j => D2.blk.fz j
    have z1 := D2.blk.k1
    have D2 := D2.set1 x2
    clear D1 T S
    go_wp2_with fail
    clear zf z1
    generalize hgw : w5.setCell ⟨R + 1, 1, none⟩ (.int .i64 x2) = W6 at D2 ⊢
    clear hgw
    refine (mint_eq (Nat.le_of_lt hRw) H3.out D2.rst).mono ?_
    rintro e w6 ⟨rfl, T, S⟩
    have D3 := D2.call T S
    have zf := fun j => D3.blk.fz j
    have z2 := D3.blk.k2
    have D3 := D3.set2 x3
    clear D2 T S
    go_wp2_with fail
    clear zf z2
    generalize hgw : w6.setCell ⟨R + 1, 2, none⟩ (.int .i64 x3) = W7 at D3 ⊢
    clear hgw
    refine (mint_eq (Nat.le_of_lt hRw) H4.out D3.rst).mono ?_
    rintro e w7 ⟨rfl, T, S⟩
    have D4 := D3.call T S
    have zf := fun j => D4.blk.fz j
    have z3 := D4.blk.k3
    have zf4 := D4.blk
    have D4 := D4.set3 x4
    clear D3 T S
    go_wp2_with fail
    have D4 := D4.alloc (.cells #[] 5)
    have O0 := own_empty (w7.setCell ⟨R + 1, 3, none⟩ (.int .i64 x4)) 5
    have hRs : R + 2 ≤ (w7.setCell ⟨R + 1, 3, none⟩ (.int .i64 x4)).heap.size := by have := zf4.lt; rw [World.size_setCell]; omega
    have hmr := mraw_any R w.heap.size (Nat.le_of_lt hRw) s4 _ D4.rst
    rw [H5.out] at hmr
    refine hmr.mono ?_
    clear hmr
    rintro e w8 ⟨v5, rfl, RV, _, T, S⟩
    have D5 := D4.call T S
    obtain ⟨Q, hQ⟩ : ∃ Q, w7.heap.size = Q := ⟨_, rfl⟩
    have hQs := S.size
    rw [World.size_alloc, World.size_setCell, hQ] at hQs
    rw [World.size_setCell, hQ] at O0 hRs
    rw [hQ]
    have O1 := own_base (own_bstep O0 S (by omega)) hRs
    have hDl := D5.blk.lt
    clear O0 D4 T S hQ zf4
    go_wp2_with (at_builtin; go_loud (refine wpList_app2 _ rfl _ _ rfl Try.elB (R + 2) _ 0 _ rfl O1 _ bs.length _ rfl RV (by simp) (ones_B _) (by omega) (by omega) ?_; intro v6 w9 O6 g6 q6; refine later ?_))
    have hQv : ∀ b, (Value.slice (some ⟨Q, 0, none⟩) 0 0).ownBlock = some b → R + 2 ≤ b ∧ (Value.slice none 0 0).ownBlock ≠ some b := fun b hb => ⟨by cases hb; exact hRs, fun h => by cases h⟩
    rw [Nat.zero_add, List.nil_append] at O6
    have q9 : R6 w9 (R + 1) x1 x2 x3 x4 (.slice none 0 0) (.slice none 0 0) := ⟨(g6.block _ D5.blk.lt (fun e => by have := (hQv _ e.symm).1; omega)).trans D5.blk.blk⟩
    have D6 := D5.setB g6 hQv q6 O6
    have zf := fun j => q9.fz j
    have z4 := q9.k4
    obtain ⟨a6, c6, rfl, _, _⟩ := (Rv.of_own O6).opened
    clear D5 O1 O6 g6 q6 RV
    refine Later.in ?_
    go_wp2_with fail
    generalize hgw : w9.setCell ⟨R + 1, 4, none⟩ (.slice a6 bs.length c6) = W9 at D6 ⊢
    clear hgw zf z4 q9
    refine (mint_eq (Nat.le_of_lt hRw) H6.out D6.rst).mono ?_
    rintro e w10 ⟨rfl, T, S⟩
    have D7 := D6.call T S
    clear D6 T S H1 H2 H3 H4 H5 H6
    obtain ⟨k, hk⟩ : ∃ k, (min n 1025).toNat = k := ⟨_, rfl⟩
    have hd := HD.out
    rw [hk] at hd
    have HD := Lib.hid hd
    have hk1 : k ≤ 1025 := by omega
    have HK := Lib.hid hk
    clear hd hk
    go_wp2_with fail
    go_loopw [10] (fun iv wr => ∃ (i : Nat) (s : RS) (fv : Value) (l : List F3), iv = .int .i64 (i : Int) ∧ i ≤ k ∧ l.length = i ∧ Hid (rd3 k s6 = (l ++ (rd3 (k - i) s).1, (rd3 (k - i) s).2)) ∧ MdS w wr R s x1 x2 x3 x4 (.slice a6 bs.length c6) fv bs l) (fun iv _ => k - (intOf iv).toNat)
    case atStart => exact ⟨0, s6, _, [], by first | rfl | trivial, Nat.zero_le _, rfl, Lib.hid (by simp), D7⟩
    case round =>
      obtain ⟨i, s, fv, l, rfl, hi, rfl, HI, E⟩ := hrel
      by_cases hlt : l.length < k
      · have hn6 := HN6.out
        have hkk := HK.out
        have hln : (l.length : Int) < n := by omega
        have hl5 : (l.length : Int) < 1025 := by omega
        obtain ⟨⟨y1, t1⟩, g1⟩ : ∃ p, rdI s = p := ⟨_, rfl⟩
        obtain ⟨⟨y2, t2⟩, g2⟩ : ∃ p, rdI t1 = p := ⟨_, rfl⟩
        obtain ⟨⟨y3, t3⟩, g3⟩ : ∃ p, rdI t2 = p := ⟨_, rfl⟩
        have HI2 := Lib.hid (rd3_inv hlt HI.out g1 g2 g3)
        have G1 := Lib.hid g1
        have G2 := Lib.hid g2
        have G3 := Lib.hid g3
        have E0 := E.alloc (.cells #[.int .i64 0, .int .i64 0, .int .i64 0] 79)
        have C0 : Fc (wr.alloc (.cells #[.int .i64 0, .int .i64 0, .int .i64 0] 79)) wr.heap.size 0 0 0 := ⟨World.alloc_heap_new wr _⟩
        have hFb : ∀ b, (Value.slice a6 bs.length c6).ownBlock = some b → b < wr.heap.size := fun b hb => (E.body.lt b hb).2
        have hFf : ∀ b, fv.ownBlock = some b → b < wr.heap.size := fun b hb => (E.own.lt b hb).2
        have hRF := E.blk.lt
        clear g1 g2 g3 HI hn6 hkk D7 E
        have hbF : (Value.slice a6 bs.length c6).ownBlock ≠ some wr.heap.size := fun e => Nat.lt_irrefl _ (hFb _ e)
        have hfF : fv.ownBlock ≠ some wr.heap.size := fun e => Nat.lt_irrefl _ (hFf _ e)
        clear hFb hFf
        go_wp2_with fail
        generalize hgw : wr.alloc (.cells #[.int .i64 0, .int .i64 0, .int .i64 0] 79) = V0 at E0 C0 ⊢
        generalize wr.heap.size = F at C0 hbF hfF hRF ⊢
        clear hgw
        refine (mint_eq (Nat.le_of_lt hRw) G1.out E0.rst).mono ?_
        rintro e u1 ⟨rfl, T, S⟩
        have E1 := E0.call T S
        have C1 := C0.step S (show F ≠ R by omega)
        have zf := fun j => C1.fz j
        have z0 := C1.k0
        have E1 := E1.other ((BStep.refl F _).set 0 (.int .i64 y1)) (by omega) C1.lt hbF hfF
        have C1 := C1.set0 y1
        clear E0 C0 T S
        go_wp2_with fail
        generalize hgw : u1.setCell ⟨F, 0, none⟩ (.int .i64 y1) = V1 at E1 C1 ⊢
        clear hgw zf z0
        refine (mint_eq (Nat.le_of_lt hRw) G2.out E1.rst).mono ?_
        rintro e u2 ⟨rfl, T, S⟩
        have E2 := E1.call T S
        have C2 := C1.step S (show F ≠ R by omega)
        have zf := fun j => C2.fz j
        have z1 := C2.k1
        have E2 := E2.other ((BStep.refl F _).set 1 (.int .i64 y2)) (by omega) C2.lt hbF hfF
        have C2 := C2.set1 y2
        clear E1 C1 T S
        go_wp2_with fail
        generalize hgw : u2.setCell ⟨F, 1, none⟩ (.int .i64 y2) = V2 at E2 C2 ⊢
        clear hgw zf z1
        refine (mint_eq (Nat.le_of_lt hRw) G3.out E2.rst).mono ?_
        rintro e u3 ⟨rfl, T, S⟩
        have E3 := E2.call T S
        have C3 := C2.step S (show F ≠ R by omega)
        have zf := fun j => C3.fz j
        have z2 := C3.k2
        have E3 := E3.other ((BStep.refl F _).set 2 (.int .i64 y3)) (by omega) C3.lt hbF hfF
        have C3 := C3.set2 y3
        clear E2 C2 T S
        go_upto_region 28 with fail
        generalize hgw : u3.setCell ⟨F, 2, none⟩ (.int .i64 y3) = V3 at E3 C3 ⊢
        clear hgw zf z2
        have k5 := E3.blk.k5
        have m0 := C3.k0
        have m1 := C3.k1
        have m2 := C3.k2
        have hsz := E3.blk.lt
        have ON := (E3.alloc (.cells #[.int .i64 y1, .int .i64 y2, .int .i64 y3] 79)).own
        have RN : Rv (V3.alloc (.cells #[.int .i64 y1, .int .i64 y2, .int .i64 y3] 79)) (.slice (some ⟨V3.heap.size, 0, none⟩) 1 1) 1 [.int .i64 y1, .int .i64 y2, .int .i64 y3] := Rv.of_cells (by omega) (by unfold maxLen; omega) (fun i u hu => by rw [← hu]; unfold World.cell?; rw [World.alloc_heap_new]; simp)
        go_wp2_with (at_builtin; go_loud (refine wpList_app2 _ rfl _ _ rfl Try.elF (R + 2) _ l.length _ rfl ON _ 1 _ rfl RN rfl (by simp [Value.oneCell']) (by omega) (by simp; omega) ?_; intro fv2 V4 O4 g4 q4; refine later ?_))
        have E4 := E3.alloc (.cells #[.int .i64 y1, .int .i64 y2, .int .i64 y3] 79)
        have hbk : R6 V4 (R + 1) x1 x2 x3 x4 (.slice a6 bs.length c6) fv := ⟨(g4.block _ E4.blk.lt (fun e => by have := (ON.lt _ e.symm).1; omega)).trans E4.blk.blk⟩
        have E5 := E4.push (l' := l ++ [⟨y1, y2, y3⟩]) g4 q4 (by
            have e1 : (l ++ [(⟨y1, y2, y3⟩ : F3)]).length = l.length + 1 := by simp
            have e2 : fcells (l ++ [⟨y1, y2, y3⟩]) = fcells l ++ [.int .i64 y1, .int .i64 y2, .int .i64 y3] := by simp [fcells, F3.cells]
            rw [e1, e2]
            exact O4)
        obtain ⟨a4, c4, rfl, _, _⟩ := (Rv.of_own O4).opened
        have zf := fun j => hbk.fz j
        have z5 := hbk.k5
        clear E3 E4 hbk O4 g4 q4 ON RN k5 m0 m1 m2 C3 hbF hfF
        refine Later.in ?_
        go_wp2_with fail
        go_roundw
        case rel => exact ⟨l.length + 1, t3, _, l ++ [⟨y1, y2, y3⟩], by go_num, by omega, by simp, HI2, E5⟩
        case measure => simp [intOf]; omega
      · obtain rfl : k = l.length := by omega
        have hi2 := HI.out
        rw [Nat.sub_self] at hi2
        have hi3 : rd3 l.length s6 = (l, s) := by rw [hi2]; simp [rd3]
        have hd := HD.out
        rw [hi3] at hd
        simp only at hd
        have HD := Lib.hid hd
        have hpk : ((l.length : Int) < n → ¬ (l.length : Int) < 1025) := by have := HK.out; omega
        obtain ⟨af, cf, rfl, _, _⟩ := (Rv.of_own E.own).opened
        have j0 := E.blk.k0
        have j1 := E.blk.k1
        have j2 := E.blk.k2
        have j3 := E.blk.k3
        have j4 := E.blk.k4
        have j5 := E.blk.k5
        clear hi2 hi3 HI hd HK D7 HN6
        go_upto_region 22 with fail
        go_cut [104] from 98 to 122 (fun sv wx => sv = .bool false ∧ wx = wr)
        case first =>
          by_cases hln : (l.length : Int) < n
          · have h1025 := hpk hln
            go_wp2_with fail
            go_meet
            exact ⟨rfl, rfl⟩
          · go_wp2_with fail
            go_meet
            exact ⟨rfl, rfl⟩
        case rest =>
        obtain ⟨rfl, rfl⟩ := hcut
        rename World => wr
        have hva := validR_any ⟨x1, x2, x3, x4, bs, l⟩ a6 af c6 cf _ ⟨Rv.of_own E.body, Rv.of_own E.own⟩
        unfold msgV at hva
        simp only at hva
        have HVA := Lib.hid hva
        clear hva
        go_wp2_with fail
        refine HVA.out.mono ?_
        rintro e w9 ⟨rfl, B9⟩
        have E9 := E.later B9
        clear E B9 j0 j1 j2 j3 j4 j5 HVA
        have hT : ∀ n : Nat, Mst (w9.drewN n) R w.heap.size s := fun n => E9.rst.later (belD (Below.refl _ _) n)
        have HT := Lib.hid hT
        have hvb : ∃ v, validM ⟨x1, x2, x3, x4, bs, l⟩ = v := ⟨_, rfl⟩
        obtain ⟨vb, hvb⟩ := hvb
        rw [hvb]
        clear hT
        go_upto_region 30 with fail
        go_cut [139] from 125 to 139 (fun sv wx => sv = .bool (!decide (rdEnd s = 0 ∧ vb = true ∧ coreP ⟨x1, x2, x3, x4, bs, l⟩ = c)) ∧ MdS w wx R s x1 x2 x3 x4 (.slice a6 bs.length c6) (.slice af l.length cf) bs l)
        case first =>
          by_cases he : rdEnd s = 0
          · cases vb with
            | false =>
              have he0 : rdEnd s = 0 := he
              clear he
              have hme := fun n => mend_any R w.heap.size s _ (HT.out n)
              rw [he0] at hme
              have HME := Lib.hid hme
              clear hme he0
              go_quiet (first | (go_at_call 47; exact Calls.quiet_of (HME.out _)))
              go_wp2_with fail
              go_meet
              exact ⟨by simp, E9.later (belD (Below.refl _ _) _)⟩
            | true =>
              have he0 : rdEnd s = 0 := he
              clear he HT
              obtain ⟨cm, hcm⟩ : ∃ cm, coreP ⟨x1, x2, x3, x4, bs, l⟩ = cm := ⟨_, rfl⟩
              have hco := fun (W : World) (h : Cells6 W ⟨x1, x2, x3, x4, bs, l⟩ a6 af c6 cf) => core_any ⟨x1, x2, x3, x4, bs, l⟩ a6 af c6 cf W h hvb
              unfold msgV at hco
              simp only [hcm] at hco
              have HCO := Lib.hid hco
              have HCM := Lib.hid hcm
              have HE0 := Lib.hid he0
              have hS6 : ∀ W, Below w9.heap.size w9 W → R6 W (R + 1) x1 x2 x3 x4 (.slice a6 bs.length c6) (.slice af l.length cf) := fun W h => (E9.later h).blk
              have hSC : ∀ W, Below w9.heap.size w9 W → Rv W (.slice (some ⟨g, off + 12, none⟩) c.length (cb - 12)) c.length (c.map vB) := fun W h => HRC.out _ (E9.later h).bel
              have HS6 := Lib.hid hS6
              have HSC := Lib.hid hSC
              clear hco hcm hvb he0 hS6 hSC
              refine wp_region_held_drew (S := fun W' => Below w9.heap.size w9 W') (by kernel_rfl) (Below.refl _ _).drew (fun _ => ?_)
              have E := E9.drew
              have B := (Below.refl w9.heap.size w9).drew
              generalize hgw : w9.drew = u0 at E B ⊢
              clear hgw
              refine wpAnyH_do 0 125 rfl rfl (by kernel_rfl) (by kernel_rfl) (by kernel_rfl) (fun _ _ _ _ _ h => h) (by kernel_rfl) (fun W hS => by go_simp; try with_reducible rfl) B ?_
              simp only [List.setIfInBounds_toArray, List.set_cons_succ, List.set_cons_zero]
              refine wpAnyH_one 1 rfl (by kernel_rfl) (by kernel_rfl) (fun K hK => ?_)
              have hme := mend_any R w.heap.size s _ E.rst
              rw [HE0.out] at hme
              go_simp
              refine hme.mono ?_
              rintro e u1 ⟨rfl, nn, rfl⟩
              have E := E.later (belD (Below.refl _ _) nn)
              have B := belD B nn
              dsimp only
              refine hK _ _ B ?_
              clear hK hme
              generalize u0.drewN nn = u1 at E B ⊢
              try simp only [Act.put, List.setIfInBounds_toArray, List.set_cons_zero, List.set_cons_succ]
              refine wpAnyH_do (v := .bool false) 2 127 rfl rfl (by kernel_rfl) (by kernel_rfl) (by kernel_rfl) (fun _ _ _ _ _ h => h) (by kernel_rfl) (fun W hS => by go_simp; try with_reducible rfl) B ?_
              simp only [List.setIfInBounds_toArray, List.set_cons_succ, List.set_cons_zero]
              refine wpAnyH_do 3 128 rfl rfl (by kernel_rfl) (by kernel_rfl) (by kernel_rfl) (fun _ _ _ _ _ h => h) (by kernel_rfl) (fun W hS => by go_simp; try with_reducible rfl) B ?_
              simp only [List.setIfInBounds_toArray, List.set_cons_succ, List.set_cons_zero]
              refine wpAnyH_do 4 129 rfl rfl (by kernel_rfl) (by kernel_rfl) (by kernel_rfl) (fun _ _ _ _ _ h => h) (by kernel_rfl) (fun W hS => by go_simp; try with_reducible rfl) B ?_
              simp only [List.setIfInBounds_toArray, List.set_cons_succ, List.set_cons_zero]
              refine wpAnyH_do (v := .bool false) 5 130 rfl rfl (by kernel_rfl) (by kernel_rfl) (by kernel_rfl) (fun _ _ _ _ _ h => h) (by kernel_rfl) (fun W hS => by go_simp; try with_reducible rfl) B ?_
              simp only [List.setIfInBounds_toArray, List.set_cons_succ, List.set_cons_zero]
              refine wpAnyH_do (v := .bool false) 6 131 rfl rfl (by kernel_rfl) (by kernel_rfl) (by kernel_rfl) (fun _ _ _ _ _ h => h) (by kernel_rfl) (fun W hS => by go_simp; try with_reducible rfl) B ?_
              simp only [List.setIfInBounds_toArray, List.set_cons_succ, List.set_cons_zero]
              refine wpAnyH_do 7 132 rfl rfl (by kernel_rfl) (by kernel_rfl) (by kernel_rfl) (fun _ _ _ _ _ h => h) (by kernel_rfl) (fun W hS => by go_simp; try with_reducible rfl) B ?_
              simp only [List.setIfInBounds_toArray, List.set_cons_succ, List.set_cons_zero]
              refine wpAnyH_do 11 136 rfl rfl (by kernel_rfl) (by kernel_rfl) (by kernel_rfl) (fun _ _ _ _ _ h => h) (by kernel_rfl) (fun W hS => by go_simp; try with_reducible rfl) B ?_
              simp only [List.setIfInBounds_toArray, List.set_cons_succ, List.set_cons_zero]
              refine wpAnyH_do (v := .string ⟨c.toArray⟩) 12 137 rfl rfl (by kernel_rfl) (by kernel_rfl) (by kernel_rfl) (fun _ _ _ _ _ h => h) (by kernel_rfl) (fun W hS => by have hcv := run_tostring _ _ _ _ Try.underlying23 Try.underlying5 Try.underlying9 _ c (HSC.out _ hS); go_simp) B ?_
              simp only [List.setIfInBounds_toArray, List.set_cons_succ, List.set_cons_zero]
              refine wpAnyH_do (v := .agg #[.int .i64 x1, .int .i64 x2, .int .i64 x3, .int .i64 x4, .slice a6 bs.length c6, .slice af l.length cf]) 8 133 rfl rfl (by kernel_rfl) (by kernel_rfl) (by kernel_rfl) (fun _ _ _ _ _ h => h) (by kernel_rfl) (fun W hS => by have q := HS6.out _ hS; have q0 := q.k0; have q1 := q.k1; have q2 := q.k2; have q3 := q.k3; have q4 := q.k4; have q5 := q.k5; go_simp) B ?_
              simp only [List.setIfInBounds_toArray, List.set_cons_succ, List.set_cons_zero]
              refine wpAnyH_one 9 rfl (by kernel_rfl) (by kernel_rfl) (fun K hK => ?_)
              have hco := HCO.out _ ⟨Rv.of_own E.body, Rv.of_own E.own⟩
              go_simp
              refine hco.mono ?_
              rintro e u2 ⟨v9, rfl, M9⟩
              have E := E.later M9.2
              have B := bel B M9.2
              have R9 := M9.rvB
              obtain ⟨a9, k9, rfl, _, _⟩ := R9.opened
              dsimp only
              refine hK _ _ B ?_
              clear hK hco M9
              try simp only [Act.put, List.setIfInBounds_toArray, List.set_cons_zero, List.set_cons_succ]
              refine wpAnyH_one 10 rfl (by kernel_rfl) (by kernel_rfl) (fun K hK => ?_)
              have hcv := run_tostring _ _ _ _ Try.underlying23 Try.underlying5 Try.underlying9 _ cm R9
              go_simp
              refine hK _ _ B ?_
              clear hK hcv R9
              try simp only [Act.put, List.setIfInBounds_toArray, List.set_cons_zero, List.set_cons_succ]
              refine wpAnyH_do (v := .bool (!(cm == c))) 13 138 rfl rfl (by kernel_rfl) (by kernel_rfl) (by kernel_rfl) (fun _ _ _ _ _ h => h) (by kernel_rfl) (fun W hS => by go_simp; try with_reducible rfl) B ?_
              simp only [List.setIfInBounds_toArray, List.set_cons_succ, List.set_cons_zero]
              refine wpAnyH_do (v := .bool (!(cm == c))) 14 139 rfl rfl (by kernel_rfl) (by kernel_rfl) (by kernel_rfl) (fun _ _ _ _ _ h => h) (by kernel_rfl) (fun W hS => by go_simp; try with_reducible rfl) B ?_
              simp only [List.setIfInBounds_toArray, List.set_cons_succ, List.set_cons_zero]
              refine wpAnyH_done (by kernel_rfl) ?_ _
              go_wp2_with fail
              go_meet
              refine ⟨?_, E⟩
              rw [HCM.out]
              by_cases hc : cm = c <;> simp [hc, HE0.out]
          · have hne : (rdEnd s != 0) = true := by simpa using he
            have hme := fun n => mend_any R w.heap.size s _ (HT.out n)
            have HME := Lib.hid hme
            clear hme
            go_quiet (first | (go_at_call 47; exact Calls.quiet_of (HME.out _)))
            go_wp2_with fail
            go_meet
            exact ⟨by simp [he], E9.later (belD (Below.refl _ _) _)⟩
        case rest =>
        obtain ⟨rfl, E8⟩ := hcut
        rename World => W8
        clear E9 HT
        have hd := HD.out
        have i1 := E8.blk.k0
        have i2 := E8.blk.k1
        have i3 := E8.blk.k2
        have i4 := E8.blk.k3
        have i5 := E8.blk.k4
        have i6 := E8.blk.k5
        have lb := E8.body.lt
        have lf := E8.own.lt
        have rb := Rv.of_own E8.body
        have rf := Rv.of_own E8.own
        have hRl := E8.blk.lt
        have I8 := E8.toI
        clear E8
        by_cases hc : rdEnd s = 0 ∧ vb = true ∧ coreP ⟨x1, x2, x3, x4, bs, l⟩ = c
        · rw [decide_eq_true hc]
          rw [hvb] at hd
          rw [if_pos hc] at hd
          have HD := Lib.hid hd
          clear hd hc hvb
          have z0 := I8.res.k0
          have z1 := I8.res.k1
          have z2 := I8.res.k2
          have z3 := I8.res.k3
          have z4 := I8.res.k4
          have z5 := I8.res.k5
          have zf := fun j => I8.res.fz j
          have HI := Lib.hid I8
          clear I8
          go_wp2_with fail
          refine bodyPost_ret (results_row_tmp2 rfl _ _ w.heap.size _ _ _ _ rfl (set6 HI.out.res.blk _ _ _ _ _ _) rfl rfl rfl) rfl ?_
          unfold DePost
          rw [HD.out]
          refine ⟨_, ?_, ⟨a6, af, c6, cf, rfl, ⟨rvFar rb (fun k hk => far6 hk _ _ _ _ _ _) (fun e => ?_), rvFar rf (fun k hk => far6 hk _ _ _ _ _ _) (fun e => ?_)⟩, fun g hg => ?_, fun g hg => ?_⟩, bel6 HI.out.bel (Nat.le_refl _) _ _ _ _ _ _⟩
          · first | rfl | trivial
          · have := (lb _ e).1; omega
          · have := (lf _ e).1; omega
          · have := lb g hg; simp only [World.size_setCell]; omega
          · have := lf g hg; simp only [World.size_setCell]; omega
        · rw [decide_eq_false hc]
          rw [hvb] at hd
          rw [if_neg hc] at hd
          have HD := Lib.hid hd
          clear hd hc hvb i1 i2 i3 i4 i5 i6 rb rf
          have z0 := I8.res.k0
          have z1 := I8.res.k1
          have z2 := I8.res.k2
          have z3 := I8.res.k3
          have z4 := I8.res.k4
          have z5 := I8.res.k5
          have zf := fun j => I8.res.fz j
          have HI := Lib.hid I8
          clear I8
          go_wp2_with fail
          refine bodyPost_ret (results_row_tmp2 rfl _ _ w.heap.size _ _ _ _ rfl (set6 HI.out.res.blk _ _ _ _ _ _) rfl rfl rfl) rfl ?_
          unfold DePost
          rw [HD.out]
          exact ⟨_, rfl, MsgAt.zero _ _, bel6 HI.out.bel (Nat.le_refl _) _ _ _ _ _ _⟩
end Go.Proofs.Ytadhghikanjkeaa
