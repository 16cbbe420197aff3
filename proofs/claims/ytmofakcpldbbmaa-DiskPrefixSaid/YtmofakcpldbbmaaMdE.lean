/- The model of a disk: Truncate, Rot. -/
import Derived.Test.YtmofakcpldbbmaaMdD
namespace Go.Proofs.Ytmofakcpldbbmaa
open Go.RowKit

section
variable {w w' : World} {q gB gF : Nat} {vs : List Value} {bs : Nat → List UInt8} {fm : List Int} {room : Int} {off : Bool} {pl : Int} {Y : Nat → Prop} {D : Dk}
/-- A row is stored, and then how much of it is durable. -/
theorem MoR.put2 (h : MoR w q gB gF vs (fun i => (D.fs (i : Int)).1) (durs D) D.room D.off pl Y) {i : Nat} (hi : i < 64) {v : Value} {b : List UInt8} {d : Nat} (hv : w.ownsRow 0 5 1 v b.length (b.map vB))
    (hvb : ∀ x, v.ownBlock = some x → x ≠ q ∧ x ≠ gB ∧ x ≠ gF ∧ ∀ j u, j ≠ i → vs[j]? = some u → u.ownBlock ≠ some x) (hd : b = [] → d = 0) :
    MoR ((w.setCell ⟨gB, i, none⟩ v).drew.setCell ⟨gF, i, none⟩ (.int .i64 (d : Int))) q gB gF (vs.set i v) (fun j => ((D.put (i : Int) b d).fs (j : Int)).1) (durs (D.put (i : Int) b d)) D.room D.off pl (fun x => Y x ∨ v.ownBlock = some x) := by
  have := ((h.store hi hv hvb).later (Below.refl _ _).drew).firm i (d : Int)
  rw [durs_put D hi b d, show (if b = [] then 0 else d) = d by split <;> first | rfl | exact (hd (by assumption)).symm]
  rw [show (fun (j : Nat) => ((D.put (i : Int) b d).fs (j : Int)).1) = fun j => if j = i then b else (D.fs (j : Int)).1 from funext fun j => by
    by_cases e : j = i
    · subst e; rw [put_fs0, if_pos rfl]
    · rw [put_fs1 D _ _ (show (j : Int) ≠ (i : Int) by omega), if_neg e]]
  exact this
end
set_option maxRecDepth 20000 in
set_option maxHeartbeats 1000000 in
theorem mtrunc_any (k s : Int) (hs64 : s ≤ 9223372036854775807) (w : World) {q : Nat} {Y : Nat → Prop} {D : Dk} (h : MAt w q Y D) :
    Calls Try.prog 45 #[.pointer (some ⟨q, 0, none⟩), .int .i64 k, .int .i64 s] w fun e w' => e = .returned (.int .i64 (D.trunc k s).1) ∧ MAt w' q Y (D.trunc k s).2 ∧ DStep Y Y w w' := by
  obtain ⟨gB, gF, vs, pl, hm, hp, hok⟩ := h
  have c1 := hm.c1
  have c3 := hm.c3
  have HM := Bx.mk hm
  have HP := Bx.mk hp
  have HK := Bx.mk hok
  have hyq := hm.yq
  clear hp hok
  go_enter Try.func45, Try.ntmps45
  have same : ∀ r, D.trunc k s = (r, D) → ∀ r', r' = r → MAt w q Y (D.trunc k s).2 ∧ (D.trunc k s).1 = r' := fun r e r' er => by rw [e, er]; exact ⟨⟨gB, gF, vs, pl, HM.out, HP.out, HK.out⟩, rfl⟩
  have SM := Bx.mk same
  clear same
  by_cases hk : 0 ≤ k ∧ k < 64
  · have hk0 : ¬ k < 0 := by omega
    have hk1 : ¬ 63 < k := by omega
    obtain ⟨i, rfl⟩ : ∃ i : Nat, k = (i : Int) := ⟨k.toNat, by omega⟩
    have hi : i < 64 := by omega
    by_cases hs0 : s < 0
    · obtain ⟨h1, h2⟩ := SM.out 1 (by unfold Dk.trunc; rw [if_pos (.inr (.inl hs0))]) 1 rfl
      rw [h2]
      have H1 := Bx.mk h1
      clear h1 h2 hm
      go_wp2_with fail
      go_ret
      exact ⟨rfl, H1.out, DStep.refl _ _⟩
    · obtain ⟨a, c, hvi, hci, hrow, hblk⟩ := hm.at hi
      obtain ⟨sn, rfl⟩ : ∃ sn : Nat, s = (sn : Int) := ⟨s.toNat, by omega⟩
      obtain ⟨x, hx⟩ : ∃ x, (D.fs (i : Int)).1 = x := ⟨_, rfl⟩
      have hlen : x.length ≤ 16777216 := by
        have h1 := D.le_used (i : Int) hk.1 hk.2
        have h2 := HK.out.used
        have h3 := HK.out.room
        rw [hx] at h1
        omega
      have HX := Bx.mk hx
      rw [hx] at hvi hci hrow hblk
      have hnc : x.length ≤ c := by
        obtain ⟨_, _, e, h, _⟩ := (Rv.of_own hrow).opened
        cases e
        exact h
      obtain ⟨n, hn⟩ : ∃ n, x.length = n := ⟨_, rfl⟩
      rw [hn] at hvi hci hrow hblk hlen hnc
      have HN := Bx.mk hn
      have hi' : (i : Int) < 64 := by omega
      clear hx hn
      by_cases hs1 : (n : Int) < (sn : Int)
      · obtain ⟨h1, h2⟩ := SM.out 1 (by unfold Dk.trunc; rw [if_pos (.inr (.inr (by rw [HX.out, HN.out]; exact hs1)))]) 1 rfl
        rw [h2]
        have H1 := Bx.mk h1
        clear h1 h2 hm hrow hblk hvi
        go_wp2_with fail
        go_ret
        exact ⟨rfl, H1.out, DStep.refl _ _⟩
      · have hnot : ¬ (¬ (0 ≤ (i : Int) ∧ (i : Int) < 64) ∨ (sn : Int) < 0 ∨ ((D.fs (i : Int)).1.length : Int) < (sn : Int)) := fun h => h.elim (fun h => h hk) (fun h => h.elim hs0 (fun h => by rw [HX.out, HN.out] at h; exact hs1 h))
        cases ho : D.off
        · rw [ho] at c3
          have hA : D.trunc (i : Int) (sn : Int) = if D.failsB then (19, D.fails) else (0, D.fails.put (i : Int) ((D.fs (i : Int)).1.take sn) (min (D.fs (i : Int)).2 sn)) := by
            unfold Dk.trunc
            rw [if_neg hnot, ho, if_neg (by simp), Int.toNat_natCast]
          have HA := Bx.mk hA
          have HST := Bx.mk (mstep_any w HM.out HP.out HK.out.left ho)
          clear hA ho hm hrow hblk hvi hnot
          go_wp2_with fail
          refine HST.out.mono ?_
          rintro e w2 ⟨rfl, ⟨pl2, H2, P2⟩, Q2⟩
          have S2 := Q2.toD hyq
          have hok2 := fails_ok HK.out
          obtain ⟨f1, f2⟩ := fails_fs D
          rw [← f2, show (fun (i : Nat) => (D.fs (i : Int)).1) = fun (i : Nat) => (D.fails.fs (i : Int)).1 by rw [f1], show durs D = durs D.fails by unfold durs; rw [f1]] at H2
          have hA := HA.out
          rw [← f1] at hA
          have hx := HX.out
          rw [← f1] at hx
          obtain ⟨fv, hfv⟩ : ∃ v, D.failsB = v := ⟨_, rfl⟩
          rw [hfv] at hA ⊢
          obtain ⟨E, hE⟩ : ∃ E, D.fails = E := ⟨_, rfl⟩
          rw [hE] at H2 P2 hok2 hA hx
          have HA := Bx.mk hA
          have HX := Bx.mk hx
          have HP2 := Bx.mk P2
          have HK2 := Bx.mk hok2
          clear HST hA hfv Q2 c3 P2 hok2 f1 f2 hE hx c1 hci
          cases fv
          · obtain ⟨a, c, hvi, hci, hrow, hblk⟩ := H2.at hi
            rw [HX.out, HN.out] at hvi hci hrow hblk
            have hnc : n ≤ c := by
              obtain ⟨_, _, e, h, _⟩ := (Rv.of_own hrow).opened
              cases e
              exact h
            obtain ⟨d, hd⟩ : ∃ d, (E.fs (i : Int)).2 = d := ⟨_, rfl⟩
            have hdn := HK2.out.dur (i : Int)
            rw [HX.out, HN.out, hd] at hdn
            have hfi := H2.fat hi (durs_at E hi)
            rw [hd] at hfi
            have htl : (x.take sn).length = sn := by rw [List.length_take, HN.out]; omega
            have hcut := own_cut hrow sn (by omega)
            rw [← List.map_take] at hcut
            have hb2 : ∀ y, (Value.slice a sn c).ownBlock = some y → (Value.slice a n c).ownBlock = some y := fun y hy => by
              cases a with
              | none => cases hy
              | some p => exact hy
            have HPUT := Bx.mk (H2.put2 hi (v := .slice a sn c) (b := x.take sn) (d := min d sn) (by rw [htl]; exact hcut)
              (fun y hy => ⟨(hblk y (hb2 y hy)).2.1, (hblk y (hb2 y hy)).2.2.1, (hblk y (hb2 y hy)).2.2.2, fun j u hj hu e => H2.sep j i u _ y hj hu hvi e (hb2 y hy)⟩) (fun e => by
                rw [e] at htl
                have : sn = 0 := htl.symm
                omega))
            have HY := Bx.mk (show ∀ y, (Y y ∨ (Value.slice a sn c).ownBlock = some y) ↔ Y y from fun y => ⟨fun h => h.elim id (fun h => (hblk y (hb2 y h)).1), .inl⟩)
            have hA := HA.out
            rw [HX.out, hd] at hA
            have HA := Bx.mk hA
            have hroom : ((E.put (i : Int) (x.take sn) (min d sn)).used : Int) ≤ E.room := by
              have h1 := E.used_put (i : Int) (x.take sn) (min d sn) hk.1 hk.2
              rw [HX.out, HN.out, htl] at h1
              have h2 := HK2.out.used
              omega
            have HOK := Bx.mk (put_ok HK2.out hk (b := x.take sn) (d := min d sn) (by rw [htl]; omega) hroom)
            have c1d : w2.drew.cell? ⟨q, 1, none⟩ = some (.slice (some ⟨gB, 0, none⟩) 64 64) := H2.c1
            have hcid : w2.drew.cell? ⟨gB, i, none⟩ = some (.slice a n c) := hci
            have hzd : w2.drew.frozen? ⟨gB, i, none⟩ = false := H2.tab i
            have hbf := H2.bf
            have hqf := H2.qf
            have hqb := H2.qb
            have hw3 : ∀ y, y ≠ gB → (w2.setCell ⟨gB, i, none⟩ (.slice a sn c)).drew.heap[y]? = w2.heap[y]? := fun y hy => Below.heap_setCell _ _ _ _ hy
            have cell3 : ∀ y j, y ≠ gB → (w2.setCell ⟨gB, i, none⟩ (.slice a sn c)).drew.cell? ⟨y, j, none⟩ = w2.cell? ⟨y, j, none⟩ := fun y j hy => World.cell?_of_block (hw3 y hy)
            have c2 := (cell3 q 2 hqb).trans H2.c2
            have c2d : (w2.setCell ⟨gB, i, none⟩ (.slice a sn c)).drew.drew.cell? ⟨q, 2, none⟩ = some (.slice (some ⟨gF, 0, none⟩) 64 64) := c2
            have hf3 := (cell3 gF i (fun e => hbf e.symm)).trans hfi
            have hf3d : (w2.setCell ⟨gB, i, none⟩ (.slice a sn c)).drew.drew.cell? ⟨gF, i, none⟩ = some (.int .i64 (d : Int)) := hf3
            have hz3 : (w2.setCell ⟨gB, i, none⟩ (.slice a sn c)).drew.drew.frozen? ⟨gF, i, none⟩ = false := (World.frozen?_of_block (hw3 gF (fun e => hbf e.symm))).trans (H2.ftab i)
            have S3 : DStep Y Y w ((w2.setCell ⟨gB, i, none⟩ (.slice a sn c)).drew.setCell ⟨gF, i, none⟩ (.int .i64 ((min d sn : Nat) : Int))) := S2.trans ⟨rfl, rfl, rfl, by rw [World.size_setCell]; exact Nat.le_of_eq (World.size_setCell _ _ _).symm, fun y _ hY => (Below.heap_setCell _ _ _ _ (fun e => hY (by rw [e]; exact H2.yf))).trans (hw3 y (fun e => hY (by rw [e]; exact H2.yb))), fun y hy => .inl hy⟩
            have HS3 := Bx.mk S3
            have hsni : (sn : Int) ≤ (n : Int) := by omega
            have hsci : (sn : Int) ≤ (c : Int) := by omega
            have hmin : (min (d : Int) (sn : Int)) = ((min d sn : Nat) : Int) := by omega
            clear hcut hrow hblk hvi hci hfi hA cell3 hw3 hbf hqf hqb c2 hf3 H2 S2 hroom htl hb2 S3
            have HMIN := Bx.mk hmin
            clear hmin
            go_upto_region 8 with fail
            go_still_tail 15, (by kernel_rfl)
            change wpList _ _ _ _ _ w2.drew
            go_upto_region 9 with fail
            generalize (w2.setCell ⟨gB, i, none⟩ (.slice a sn c)).drew = w3 at c2d hf3d hz3 HPUT HS3 ⊢
            go_still_tail 15, (by kernel_rfl)
            change wpList _ _ _ _ _ w3.drew
            go_wp2_with fail
            rw [HMIN.out]
            go_ret
            rw [HA.out]
            exact ⟨rfl, ⟨gB, gF, _, pl2, (HPUT.out.sameY HY.out).later (Below.refl _ _).drew, HP2.out, HOK.out⟩, HS3.out.trans (DStep.ofBelow Y (Below.refl _ _).drew)⟩
          · go_wp2_with fail
            go_ret
            rw [HA.out]
            exact ⟨rfl, ⟨gB, gF, vs, pl2, H2, HP2.out, HK2.out⟩, S2⟩
        · rw [ho] at c3
          obtain ⟨h1, h2⟩ := SM.out 19 (by unfold Dk.trunc; rw [if_neg hnot, ho, if_pos rfl]) 19 rfl
          rw [h2]
          have H1 := Bx.mk h1
          clear h1 h2 hm hrow hblk hvi ho hnot
          go_wp2_with fail
          go_ret
          exact ⟨rfl, H1.out, DStep.refl _ _⟩
  · obtain ⟨h1, h2⟩ := SM.out 1 (by unfold Dk.trunc; rw [if_pos (.inl hk)]) 1 rfl
    rw [h2]
    have H1 := Bx.mk h1
    clear h1 h2 hm
    by_cases hk0 : k < 0
    · go_wp2_with fail
      go_ret
      exact ⟨rfl, H1.out, DStep.refl _ _⟩
    · have hk1 : 63 < k := by omega
      go_wp2_with fail
      go_ret
      exact ⟨rfl, H1.out, DStep.refl _ _⟩
end Go.Proofs.Ytmofakcpldbbmaa
