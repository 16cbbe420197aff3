/- The model of a disk: Copy. -/
import Derived.Test.YtmofakcpldbbmaaMdG
namespace Go.Proofs.Ytmofakcpldbbmaa
open Go.RowKit

def copyF (D : Dk) (i : Nat) : List Int := (List.range 64).map fun (j : Nat) => if j < i then ((D.fs (j : Int)).2 : Int) else 0
theorem copyF_at (E : Dk) {i j : Nat} (hj : j < 64) : (copyF E i)[j]? = some (if j < i then ((E.fs (j : Int)).2 : Int) else 0) := by
  unfold copyF
  rw [List.getElem?_map, List.getElem?_range hj]
  rfl
theorem copyF_64 (E : Dk) : copyF E 64 = durs E := by
  unfold copyF durs
  refine List.map_congr_left fun j hj => ?_
  rw [if_pos (List.mem_range.1 hj)]
theorem copyF_0 (r : Int) (E : Dk) : durs (newD r) = copyF E 0 := by
  unfold copyF durs
  refine List.map_congr_left fun j hj => ?_
  rw [if_neg (by omega)]
  rfl
theorem copyF_set (E : Dk) {i : Nat} (hi : i < 64) : (copyF E i).set i ((E.fs (i : Int)).2 : Int) = copyF E (i + 1) := by
  apply List.ext_getElem?
  intro j
  rw [List.getElem?_set]
  by_cases hj : j < 64
  · by_cases e : i = j
    · subst e
      rw [if_pos rfl, if_pos (by simp [copyF]; exact hi), copyF_at E hi, if_pos (Nat.lt_succ_self _)]
    · rw [if_neg e, copyF_at E hj, copyF_at E hj]
      by_cases h : j < i
      · rw [if_pos h, if_pos (by omega)]
      · rw [if_neg h, if_neg (by omega)]
  · rw [if_neg (by omega), List.getElem?_eq_none (by simp [copyF]; omega), List.getElem?_eq_none (by simp [copyF]; omega)]
def copyB (D : Dk) (i : Nat) (j : Nat) : List UInt8 := if j < i then (D.fs (j : Int)).1 else []
theorem copyB_set (D : Dk) (i : Nat) : (fun j => if j = i then (D.fs (i : Int)).1 else copyB D i j) = copyB D (i + 1) := by
  funext j
  unfold copyB
  by_cases e : j = i
  · subst e; rw [if_pos rfl, if_pos (Nat.lt_succ_self _)]
  · rw [if_neg e]
    by_cases h : j < i
    · rw [if_pos h, if_pos (by omega)]
    · rw [if_neg h, if_neg (by omega)]
section
variable {w w' : World} {q gB gF : Nat} {vs : List Value} {bs bs' : Nat → List UInt8} {fm : List Int} {room : Int} {off : Bool} {pl : Int} {Y : Nat → Prop}
theorem MoR.bsEq (h : MoR w q gB gF vs bs fm room off pl Y) (e : ∀ i, i < 64 → bs i = bs' i) : MoR w q gB gF vs bs' fm room off pl Y :=
  ⟨h.blk, h.ob, h.of, h.qb, h.qf, h.bf, h.yq, h.yb, h.yf, fun i v hv => by
    have hi : i < 64 := by have := (List.getElem?_eq_some_iff.1 hv).1; rw [h.vl] at this; exact this
    rw [← e i hi]; exact h.row i v hv, h.sep, h.yl⟩
end
set_option linter.unusedSimpArgs false in
set_option maxRecDepth 20000 in
set_option maxHeartbeats 2000000 in
theorem mcopy_any (w : World) {q : Nat} {Y : Nat → Prop} {D : Dk} (h : MAt w q Y D) :
    Calls Try.prog 33 #[.pointer (some ⟨q, 0, none⟩)] w fun e w' => ∃ q' Y', e = .returned (.pointer (some ⟨q', 0, none⟩)) ∧ MAt w' q' Y' D ∧ (∀ b, Y' b → w.heap.size ≤ b) ∧ Below w.heap.size w w' := by
  obtain ⟨gB, gF, vs, pl, hm, hp, hok⟩ := h
  have HM := Bx.mk hm
  have HP := Bx.mk hp
  have HK := Bx.mk hok
  have c0 := hm.c0
  have hrm := hok.room
  have HYL := Bx.mk hm.yl
  clear hm hp hok
  go_enter Try.func33, Try.ntmps33
  go_wp2_with fail
  refine (mnew_raw D.room hrm.1 hrm.2 w).mono ?_
  rintro e w1 ⟨p, tB, tF, X, rfl, ⟨N1, _, _⟩, hX, B1⟩
  have N1 : MoR w1 p tB tF (List.replicate 64 (.slice none 0 0)) (copyB D 0) (copyF D 0) D.room false (-1) X := by
    rw [← copyF_0 D.room D]
    exact N1.bsEq fun i _ => by show [] = copyB D 0 i; unfold copyB; rw [if_neg (by omega)]
  have HR := Bx.mk (rfl : D.room = D.room)
  clear c0 hrm
  go_wp2_with fail
  go_loopw [4] (fun u W => ∃ (i : Nat) (us : List Value) (Z : Nat → Prop), u = .int .i64 (i : Int) ∧ i ≤ 64 ∧ (∀ j, i ≤ j → j < 64 → us[j]? = some (.slice none 0 0)) ∧ MoR W p tB tF us (copyB D i) (copyF D i) D.room false (-1) Z ∧ (∀ b, Z b → w.heap.size ≤ b) ∧ Below w.heap.size w W) (fun u _ => 64 - (match u with | .int _ k => k.toNat | _ => 0))
  case atStart => exact ⟨0, _, X, rfl, Nat.zero_le _, (fun j _ hj => by rw [List.getElem?_replicate, if_pos hj]), N1, hX, B1⟩
  case round =>
    rename World => W
    obtain ⟨i, us, Z, rfl, hi, hnil, N, hZ, B⟩ := hrel
    have H := HM.out.later B
    by_cases hlt : i < 64
    · have hlti : (i : Int) < 64 := by omega
      obtain ⟨a, c, hvi, hci, hrow, hblk⟩ := H.at hlt
      obtain ⟨x, hx⟩ : ∃ x, (D.fs (i : Int)).1 = x := ⟨_, rfl⟩
      have hlen : x.length ≤ 16777216 := by
        have h1 := D.le_used (i : Int) (by omega) hlti
        have h2 := HK.out.used
        have h3 := HK.out.room
        rw [hx] at h1
        omega
      rw [hx] at hvi hci hrow hblk
      have HX := Bx.mk hx
      have hni := hnil i (Nat.le_refl _) hlt
      have hcn := N.ob.cellAt (j := i) (by omega)
      rw [hni] at hcn
      have hfz := N.tab i
      have n1 := N.c1
      have c1 := H.c1
      have HNIL := Bx.mk hnil
      have HZ := Bx.mk hZ
      have hsz := B.size
      have hgZ : ∀ j, Y j → ¬ Z j := fun j hj hz => by have := HYL.out j hj; have := hZ j hz; omega
      have hpq : p ≠ q := fun e => hgZ q H.yq (e ▸ N.yq)
      have htq : tB ≠ q := fun e => hgZ q H.yq (e ▸ N.yb)
      have htg : tB ≠ gB := fun e => hgZ gB H.yb (e ▸ N.yb)
      have hpt : p ≠ tB := N.qb
      obtain ⟨n, hn⟩ : ∃ n, x.length = n := ⟨_, rfl⟩
      rw [hn] at hvi hci hrow hblk hlen
      have HN := Bx.mk hn
      clear hx hn hnil hZ hvi hblk
      go_upto_region 5 with fail
      have s0 : W.drew.cell? ⟨p, 1, none⟩ = some (.slice (some ⟨tB, 0, none⟩) 64 64) ∧ W.drew.cell? ⟨q, 1, none⟩ = some (.slice (some ⟨gB, 0, none⟩) 64 64) ∧ W.drew.cell? ⟨gB, i, none⟩ = some (.slice a n c) := ⟨n1, c1, hci⟩
      have hcnd : W.drew.cell? ⟨tB, i, none⟩ = some (.slice none 0 0) := hcn
      refine wp_region_held_drew (S := fun W => W.cell? ⟨p, 1, none⟩ = some (.slice (some ⟨tB, 0, none⟩) 64 64) ∧ W.cell? ⟨q, 1, none⟩ = some (.slice (some ⟨gB, 0, none⟩) 64 64) ∧ W.cell? ⟨gB, i, none⟩ = some (.slice a n c)) (by kernel_rfl) s0 (fun _ => ?_)
      refine wpAnyH_do 0 14 rfl rfl (by kernel_rfl) (by kernel_rfl) (by kernel_rfl) (fun _ _ _ _ _ h => h) (by kernel_rfl) (fun W hS => by (obtain ⟨s1, s2, s3⟩ := hS); go_simp; try with_reducible rfl) s0 ?_
      simp only [List.setIfInBounds_toArray, List.set_cons_succ, List.set_cons_zero]
      refine wpAnyH_do 1 15 rfl rfl (by kernel_rfl) (by kernel_rfl) (by kernel_rfl) (fun _ _ _ _ _ h => h) (by kernel_rfl) (fun W hS => by (obtain ⟨s1, s2, s3⟩ := hS); go_simp; try with_reducible rfl) s0 ?_
      simp only [List.setIfInBounds_toArray, List.set_cons_succ, List.set_cons_zero]
      refine wpAnyH_do 2 16 rfl rfl (by kernel_rfl) (by kernel_rfl) (by kernel_rfl) (fun _ _ _ _ _ h => h) (by kernel_rfl) (fun W hS => by (obtain ⟨s1, s2, s3⟩ := hS); go_simp; try with_reducible rfl) s0 ?_
      simp only [List.setIfInBounds_toArray, List.set_cons_succ, List.set_cons_zero]
      refine wpAnyH_do 3 17 rfl rfl (by kernel_rfl) (by kernel_rfl) (by kernel_rfl) (fun _ _ _ _ _ h => h) (by kernel_rfl) (fun W hS => by (obtain ⟨s1, s2, s3⟩ := hS); go_simp; try with_reducible rfl) s0 ?_
      simp only [List.setIfInBounds_toArray, List.set_cons_succ, List.set_cons_zero]
      refine wpAnyH_do 4 18 rfl rfl (by kernel_rfl) (by kernel_rfl) (by kernel_rfl) (fun _ _ _ _ _ h => h) (by kernel_rfl) (fun W hS => by (obtain ⟨s1, s2, s3⟩ := hS); go_simp; try with_reducible rfl) s0 ?_
      simp only [List.setIfInBounds_toArray, List.set_cons_succ, List.set_cons_zero]
      refine wpAnyH_do 5 19 rfl rfl (by kernel_rfl) (by kernel_rfl) (by kernel_rfl) (fun _ _ _ _ _ h => h) (by kernel_rfl) (fun W hS => by (obtain ⟨s1, s2, s3⟩ := hS); go_simp; try with_reducible rfl) s0 ?_
      simp only [List.setIfInBounds_toArray, List.set_cons_succ, List.set_cons_zero]
      refine wpAnyH_do 6 20 rfl rfl (by kernel_rfl) (by kernel_rfl) (by kernel_rfl) (fun _ _ _ _ _ h => h) (by kernel_rfl) (fun W hS => by (obtain ⟨s1, s2, s3⟩ := hS); go_simp; try with_reducible rfl) s0 ?_
      simp only [List.setIfInBounds_toArray, List.set_cons_succ, List.set_cons_zero]
      refine wpAnyH_do 7 21 rfl rfl (by kernel_rfl) (by kernel_rfl) (by kernel_rfl) (fun _ _ _ _ _ h => h) (by kernel_rfl) (fun W hS => by (obtain ⟨s1, s2, s3⟩ := hS); go_simp; try with_reducible rfl) s0 ?_
      simp only [List.setIfInBounds_toArray, List.set_cons_succ, List.set_cons_zero]
      refine wpAnyH_do 8 22 rfl rfl (by kernel_rfl) (by kernel_rfl) (by kernel_rfl) (fun _ _ _ _ _ h => h) (by kernel_rfl) (fun W hS => by (obtain ⟨s1, s2, s3⟩ := hS); go_simp; try with_reducible rfl) s0 ?_
      simp only [List.setIfInBounds_toArray, List.set_cons_succ, List.set_cons_zero]
      refine wpAnyH_do 9 23 rfl rfl (by kernel_rfl) (by kernel_rfl) (by kernel_rfl) (fun _ _ _ _ _ h => h) (by kernel_rfl) (fun W hS => by (obtain ⟨s1, s2, s3⟩ := hS); go_simp; try with_reducible rfl) s0 ?_
      simp only [List.setIfInBounds_toArray, List.set_cons_succ, List.set_cons_zero]
      refine wpAnyH_do 10 24 rfl rfl (by kernel_rfl) (by kernel_rfl) (by kernel_rfl) (fun _ _ _ _ _ h => h) (by kernel_rfl) (fun W hS => by (obtain ⟨s1, s2, s3⟩ := hS); go_simp; try with_reducible rfl) s0 ?_
      simp only [List.setIfInBounds_toArray, List.set_cons_succ, List.set_cons_zero]
      refine wpAnyH_do 12 26 rfl rfl (by kernel_rfl) (by kernel_rfl) (by kernel_rfl) (fun _ _ _ _ _ h => h) (by kernel_rfl) (fun W hS => by (obtain ⟨s1, s2, s3⟩ := hS); go_simp; try with_reducible rfl) s0 ?_
      simp only [List.setIfInBounds_toArray, List.set_cons_succ, List.set_cons_zero]
      refine wpAnyH_do 13 27 rfl rfl (by kernel_rfl) (by kernel_rfl) (by kernel_rfl) (fun _ _ _ _ _ h => h) (by kernel_rfl) (fun W hS => by (obtain ⟨s1, s2, s3⟩ := hS); go_simp; try with_reducible rfl) s0 ?_
      simp only [List.setIfInBounds_toArray, List.set_cons_succ, List.set_cons_zero]
      refine wpAnyH_do 14 28 rfl rfl (by kernel_rfl) (by kernel_rfl) (by kernel_rfl) (fun _ _ _ _ _ h => h) (by kernel_rfl) (fun W hS => by (obtain ⟨s1, s2, s3⟩ := hS); go_simp; try with_reducible rfl) s0 ?_
      simp only [List.setIfInBounds_toArray, List.set_cons_succ, List.set_cons_zero]
      refine wpAnyH_do 15 29 rfl rfl (by kernel_rfl) (by kernel_rfl) (by kernel_rfl) (fun _ _ _ _ _ h => h) (by kernel_rfl) (fun W hS => by (obtain ⟨s1, s2, s3⟩ := hS); go_simp; try with_reducible rfl) s0 ?_
      simp only [List.setIfInBounds_toArray, List.set_cons_succ, List.set_cons_zero]
      refine wpAnyH_do 16 30 rfl rfl (by kernel_rfl) (by kernel_rfl) (by kernel_rfl) (fun _ _ _ _ _ h => h) (by kernel_rfl) (fun W hS => by (obtain ⟨s1, s2, s3⟩ := hS); go_simp; try with_reducible rfl) s0 ?_
      simp only [List.setIfInBounds_toArray, List.set_cons_succ, List.set_cons_zero]
      refine wpAnyH_do 17 31 rfl rfl (by kernel_rfl) (by kernel_rfl) (by kernel_rfl) (fun _ _ _ _ _ h => h) (by kernel_rfl) (fun W hS => by (obtain ⟨s1, s2, s3⟩ := hS); go_simp; try with_reducible rfl) s0 ?_
      simp only [List.setIfInBounds_toArray, List.set_cons_succ, List.set_cons_zero]
      refine wpAnyH_do 18 32 rfl rfl (by kernel_rfl) (by kernel_rfl) (by kernel_rfl) (fun _ _ _ _ _ h => h) (by kernel_rfl) (fun W hS => by (obtain ⟨s1, s2, s3⟩ := hS); go_simp; try with_reducible rfl) s0 ?_
      simp only [List.setIfInBounds_toArray, List.set_cons_succ, List.set_cons_zero]
      refine wpAnyH_one 11 rfl (by kernel_rfl) (by kernel_rfl) (fun K hK => ?_)
      go_simp
      refine hK _ _ s0 ?_
      clear hK
      try simp only [Act.put, List.setIfInBounds_toArray, List.set_cons_zero, List.set_cons_succ]
      refine wpAnyH_one 19 rfl (by kernel_rfl) (by kernel_rfl) (fun K hK => ?_)
      refine opApp _ _ rfl Try.elB W.heap.size (.slice none 0 0) 0 [] rfl (World.ownsRow_nil _ _ _ _) (.slice a n c) n _ rfl ((Rv.of_own hrow).below (Below.refl _ _).drew) (by rw [List.length_map, HN.out]; simp) (ones_B _) (by omega) (Nat.le_refl _) ?_
      intro v6 w6 O6 g6 s6
      have B6 : Below W.heap.size W w6 := (Below.refl W.heap.size W).drew.grown g6 (Nat.le_refl _) (fun g hg => by cases hg)
      have N6 := N.later B6
      have H6 := H.later B6
      have s0 : w6.cell? ⟨p, 1, none⟩ = some (.slice (some ⟨tB, 0, none⟩) 64 64) ∧ w6.cell? ⟨q, 1, none⟩ = some (.slice (some ⟨gB, 0, none⟩) 64 64) ∧ w6.cell? ⟨gB, i, none⟩ = some (.slice a n c) := ⟨N6.c1, H6.c1, (B6.cell (World.block_lt_of_cell? W _ hci)).trans hci⟩
      refine hK _ _ s0 ?_
      clear hK
      rw [List.nil_append, Nat.zero_add] at O6
      obtain ⟨a6, c6, rfl⟩ := own_isSlice O6
      try simp only [Act.put, List.setIfInBounds_toArray, List.set_cons_zero, List.set_cons_succ]
      refine wpAnyH_do 20 34 rfl rfl (by kernel_rfl) (by kernel_rfl) (by kernel_rfl) (fun _ _ _ _ _ h => h) (by kernel_rfl) (fun W hS => by (obtain ⟨s1, s2, s3⟩ := hS); go_simp; try with_reducible rfl) s0 ?_
      simp only [List.setIfInBounds_toArray, List.set_cons_succ, List.set_cons_zero]
      have hfz6 := N6.tab i
      have hcn6 := (B6.cell (World.block_lt_of_cell? W _ hcn)).trans hcn
      refine wpAnyH_one 21 rfl (by kernel_rfl) (by kernel_rfl) (fun K hK => ?_)
      go_simp
      have ht7 : ∀ y j, y ≠ tB → (w6.setCell ⟨tB, i, none⟩ (.slice a6 n c6)).cell? ⟨y, j, none⟩ = w6.cell? ⟨y, j, none⟩ := fun y j hy => World.cell?_of_block (Below.heap_setCell _ _ _ _ hy)
      refine hK _ _ ⟨(ht7 p 1 hpt).trans s0.1, (ht7 q 1 (fun e => htq e.symm)).trans s0.2.1, (ht7 gB i (fun e => htg e.symm)).trans s0.2.2⟩ ?_
      clear hK
      have N7 := N6.store hlt (v := .slice a6 n c6) (b := x) (by rw [HN.out]; exact own_base O6 (Nat.zero_le _)) (fun y hy => by
        have h1 := (O6.lt y hy).1
        refine ⟨fun e => by have := N.yl p N.yq; omega, fun e => by have := N.yl tB N.yb; omega, fun e => by have := N.yl tF N.yf; omega, fun j u _ hu e => by have := ((N.row j u hu).1.lt y e).2; omega⟩)
      rw [← HX.out, copyB_set D i] at N7
      have hZ7 : ∀ b, (Z b ∨ (Value.slice a6 n c6).ownBlock = some b) → w.heap.size ≤ b := fun b hb => hb.elim (HZ.out b) (fun hb => by have := (O6.lt b hb).1; omega)
      have B7 : Below w.heap.size w (w6.setCell ⟨tB, i, none⟩ (.slice a6 n c6)) := (bel B B6).setCell (p := ⟨tB, i, none⟩) (HZ.out tB N.yb) _
      generalize w6.setCell ⟨tB, i, none⟩ (.slice a6 n c6) = w7 at N7 B7 ⊢
      try simp only [Act.put, List.setIfInBounds_toArray, List.set_cons_zero, List.set_cons_succ]
      refine wpAnyH_done (by kernel_rfl) ?_ _
      have H7 := HM.out.later B7
      have hfi := H7.fat hlt (durs_at D hlt)
      obtain ⟨d, hd⟩ : ∃ d, ((D.fs (i : Int)).2 : Int) = d := ⟨_, rfl⟩
      have N8 := N7.firm i ((D.fs (i : Int)).2 : Int)
      rw [copyF_set D hlt] at N8
      rw [hd] at hfi N8
      have hfc := N7.fat hlt (copyF_at D hlt)
      rw [if_neg (Nat.lt_irrefl _)] at hfc
      have n2 : w7.drew.cell? ⟨p, 2, none⟩ = some (.slice (some ⟨tF, 0, none⟩) 64 64) := N7.c2
      have m2 : w7.drew.cell? ⟨q, 2, none⟩ = some (.slice (some ⟨gF, 0, none⟩) 64 64) := H7.c2
      have hfid : w7.drew.cell? ⟨gF, i, none⟩ = some (.int .i64 d) := hfi
      have hfcd : w7.drew.cell? ⟨tF, i, none⟩ = some (.int .i64 0) := hfc
      have hfzd : w7.drew.frozen? ⟨tF, i, none⟩ = false := N7.ftab i
      have hyf := HZ.out tF N.yf
      have HNI : Bx (∀ j, i + 1 ≤ j → j < 64 → (us.set i (.slice a6 n c6))[j]? = some (.slice none 0 0)) := ⟨fun j hj hj2 => by rw [List.getElem?_set_ne (by omega)]; exact HNIL.out j (by omega) hj2⟩
      have HZ7 := Bx.mk hZ7
      clear N6 H6 O6 g6 s6 B6 ht7 s0 hcn6 hfz6 N H hrow hci hcn hcnd n1 c1 hfz hgZ hd N7 H7 hfi hfc B hni hZ7
      go_wp2_with fail
      go_still_tail 13, (by kernel_rfl)
      change wpList _ _ _ _ _ w7.drew
      go_wp2_with fail
      go_roundw
      case rel => exact ⟨i + 1, _, _, by simp, hlt, HNI.out, N8.later (Below.refl _ _).drew, HZ7.out, (B7.setCell (p := ⟨tF, i, none⟩) hyf _).drew⟩
      case measure => show 64 - ((i : Int) + 1).toNat < 64 - ((i : Int)).toNat; omega
    · obtain rfl : i = 64 := by omega
      rw [copyF_64] at N
      have N := N.bsEq (bs' := fun i => (D.fs (i : Int)).1) fun j hj => by unfold copyB; rw [if_pos hj]
      have hpp := hZ p N.yq
      have c3 := H.c3
      have c4 := H.c4
      have n3 := N.c3
      have n4 := N.c4
      have nf := fun j => N.fz j
      have hqy := HYL.out q H.yq
      have hpq : p ≠ q := by omega
      have hnb := N.blk
      unfold moO at hnb
      clear hnil
      have HN := Bx.mk N
      have HZ := Bx.mk hZ
      have HNB := Bx.mk hnb
      clear N hZ hnb H
      go_wp2_with fail
      go_ret
      refine ⟨p, Z, rfl, ⟨tB, tF, us, pl, HN.out.turn ?_ (by simp) (fun k _ hk => (Below.heap_setCell _ _ _ _ hk).trans (Below.heap_setCell _ _ _ _ hk)), HP.out, HK.out⟩, HZ.out, (B.setCell (p := ⟨p, 3, none⟩) hpp _).setCell (p := ⟨p, 4, none⟩) hpp _⟩
      have := setBlk (setBlk HNB.out 3 (.bool D.off)) 4 (.int .i64 pl)
      simp only [List.setIfInBounds_toArray, List.set_cons_succ, List.set_cons_zero] at this
      unfold moO
      exact this
end Go.Proofs.Ytmofakcpldbbmaa
