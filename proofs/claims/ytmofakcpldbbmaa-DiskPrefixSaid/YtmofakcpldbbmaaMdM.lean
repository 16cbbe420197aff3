/- same, made. -/
import Derived.Test.YtmofakcpldbbmaaMdL
import Derived.Test.YtmofakcpldbbmaaDskN
namespace Go.Proofs.Ytmofakcpldbbmaa
open Go.RowKit

set_option linter.unusedSimpArgs false in
set_option maxRecDepth 20000 in
set_option maxHeartbeats 2000000 in
theorem same_any (w : World) {p q : Nat} {X Y : Nat → Prop} {D : Dk} (hd : DAt w p X D) (hm : MAt w q Y D) :
    Calls Try.prog 31 #[.pointer (some ⟨p, 0, none⟩), .pointer (some ⟨q, 0, none⟩)] w fun e w' => e = .returned (.bool true) ∧ Below w.heap.size w w' := by
  obtain ⟨gB, gF, vs, pl, hm, _, hok⟩ := hm
  have hu1 : D.used ≤ 16777216 := by have := hok.used; have := hok.room; omega
  have HD := Bx.mk hd
  have HM := Bx.mk hm
  obtain ⟨U, hU⟩ : ∃ U, D.used = U := ⟨_, rfl⟩
  obtain ⟨off, hoff⟩ : ∃ o, D.off = o := ⟨_, rfl⟩
  have HU := Bx.mk hU
  have HO := Bx.mk hoff
  have m3 := hm.c3
  rw [hoff] at m3
  clear hd hm hok hU hoff
  go_enter Try.func31, Try.ntmps31
  go_upto_region 1 with fail
  go_cut [29] from 8 to 29 (fun u wx => u = .bool false ∧ Below w.heap.size w wx)
  case first =>
    have s0 : w.drew.cell? ⟨q, 3, none⟩ = some (.bool off) := m3
    refine wp_region_held_drew (S := fun W' => W'.cell? ⟨q, 3, none⟩ = some (.bool off)) (by kernel_rfl) s0 (fun _ => ?_)
    refine wpAnyH_do 0 8 rfl rfl (by kernel_rfl) (by kernel_rfl) (by kernel_rfl) (fun _ _ _ _ _ h => h) (by kernel_rfl) (fun W hS => by (obtain s1 := hS); go_simp; try with_reducible rfl) s0 ?_
    simp only [List.setIfInBounds_toArray, List.set_cons_succ, List.set_cons_zero]
    refine wpAnyH_do 2 10 rfl rfl (by kernel_rfl) (by kernel_rfl) (by kernel_rfl) (fun _ _ _ _ _ h => h) (by kernel_rfl) (fun W hS => by (obtain s1 := hS); go_simp; try with_reducible rfl) s0 ?_
    simp only [List.setIfInBounds_toArray, List.set_cons_succ, List.set_cons_zero]
    refine wpAnyH_one 1 rfl (by kernel_rfl) (by kernel_rfl) (fun K hK => ?_)
    go_simp
    refine (dused _ (HD.out.later (Below.refl w.heap.size w).drew)).mono ?_
    rw [HU.out]
    rintro e w1 ⟨rfl, n1, rfl⟩
    have B1 := belD (Below.refl w.heap.size w).drew n1
    refine hK _ _ s0 ?_
    clear hK
    have s1' : (w.drew.drewN n1).cell? ⟨q, 3, none⟩ = some (.bool off) := s0
    generalize w.drew.drewN n1 = w1 at B1 s1' ⊢
    try simp only [Act.put, List.setIfInBounds_toArray, List.set_cons_zero, List.set_cons_succ]
    refine wpAnyH_one 3 rfl (by kernel_rfl) (by kernel_rfl) (fun K hK => ?_)
    go_simp
    refine (mused_any _ (HM.out.later B1) hu1).mono ?_
    rw [HU.out]
    rintro e w2 ⟨rfl, n2, rfl⟩
    have B2 := belD B1 n2
    refine hK _ _ s1' ?_
    clear hK
    have s2' : (w1.drewN n2).cell? ⟨q, 3, none⟩ = some (.bool off) := s1'
    generalize w1.drewN n2 = w2 at B2 s2' ⊢
    try simp only [Act.put, List.setIfInBounds_toArray, List.set_cons_zero, List.set_cons_succ]
    refine wpAnyH_do 4 12 rfl rfl (by kernel_rfl) (by kernel_rfl) (by kernel_rfl) (fun _ _ _ _ _ h => h) (by kernel_rfl) (fun W hS => by (obtain s1 := hS); go_simp; try with_reducible rfl) s2' ?_
    simp only [List.setIfInBounds_toArray, List.set_cons_succ, List.set_cons_zero]
    refine wpAnyH_do 5 13 rfl rfl (by kernel_rfl) (by kernel_rfl) (by kernel_rfl) (fun _ _ _ _ _ h => h) (by kernel_rfl) (fun W hS => by (obtain s1 := hS); go_simp; try with_reducible rfl) s2' ?_
    simp only [List.setIfInBounds_toArray, List.set_cons_succ, List.set_cons_zero]
    refine wpAnyH_do 6 14 rfl rfl (by kernel_rfl) (by kernel_rfl) (by kernel_rfl) (fun _ _ _ _ _ h => h) (by kernel_rfl) (fun W hS => by (obtain s1 := hS); go_simp; try with_reducible rfl) s2' ?_
    simp only [List.setIfInBounds_toArray, List.set_cons_succ, List.set_cons_zero]
    refine wpAnyH_do 8 16 rfl rfl (by kernel_rfl) (by kernel_rfl) (by kernel_rfl) (fun _ _ _ _ _ h => h) (by kernel_rfl) (fun W hS => by (obtain s1 := hS); go_simp; try with_reducible rfl) s2' ?_
    simp only [List.setIfInBounds_toArray, List.set_cons_succ, List.set_cons_zero]
    refine wpAnyH_do 9 17 rfl rfl (by kernel_rfl) (by kernel_rfl) (by kernel_rfl) (fun _ _ _ _ _ h => h) (by kernel_rfl) (fun W hS => by (obtain s1 := hS); go_simp; try with_reducible rfl) s2' ?_
    simp only [List.setIfInBounds_toArray, List.set_cons_succ, List.set_cons_zero]
    refine wpAnyH_do 10 18 rfl rfl (by kernel_rfl) (by kernel_rfl) (by kernel_rfl) (fun _ _ _ _ _ h => h) (by kernel_rfl) (fun W hS => by (obtain s1 := hS); go_simp; try with_reducible rfl) s2' ?_
    simp only [List.setIfInBounds_toArray, List.set_cons_succ, List.set_cons_zero]
    refine wpAnyH_do 11 19 rfl rfl (by kernel_rfl) (by kernel_rfl) (by kernel_rfl) (fun _ _ _ _ _ h => h) (by kernel_rfl) (fun W hS => by (obtain s1 := hS); go_simp; try with_reducible rfl) s2' ?_
    simp only [List.setIfInBounds_toArray, List.set_cons_succ, List.set_cons_zero]
    refine wpAnyH_one 7 rfl (by kernel_rfl) (by kernel_rfl) (fun K hK => ?_)
    go_simp
    refine (don _ (HD.out.later B2)).mono ?_
    rw [HO.out]
    rintro e w3 ⟨rfl, n3, rfl⟩
    have B3 := belD B2 n3
    refine hK _ _ s2' ?_
    clear hK
    have s3' : (w2.drewN n3).cell? ⟨q, 3, none⟩ = some (.bool off) := s2'
    generalize w2.drewN n3 = w3 at B3 s3' ⊢
    try simp only [Act.put, List.setIfInBounds_toArray, List.set_cons_zero, List.set_cons_succ]
    refine wpAnyH_do 12 20 rfl rfl (by kernel_rfl) (by kernel_rfl) (by kernel_rfl) (fun _ _ _ _ _ h => h) (by kernel_rfl) (fun W hS => by (obtain s1 := hS); go_simp; try with_reducible rfl) s3' ?_
    simp only [List.setIfInBounds_toArray, List.set_cons_succ, List.set_cons_zero]
    refine wpAnyH_do 13 21 rfl rfl (by kernel_rfl) (by kernel_rfl) (by kernel_rfl) (fun _ _ _ _ _ h => h) (by kernel_rfl) (fun W hS => by (obtain s1 := hS); go_simp; try with_reducible rfl) s3' ?_
    simp only [List.setIfInBounds_toArray, List.set_cons_succ, List.set_cons_zero]
    refine wpAnyH_do 14 22 rfl rfl (by kernel_rfl) (by kernel_rfl) (by kernel_rfl) (fun _ _ _ _ _ h => h) (by kernel_rfl) (fun W hS => by (obtain s1 := hS); go_simp; try with_reducible rfl) s3' ?_
    simp only [List.setIfInBounds_toArray, List.set_cons_succ, List.set_cons_zero]
    refine wpAnyH_do 15 23 rfl rfl (by kernel_rfl) (by kernel_rfl) (by kernel_rfl) (fun _ _ _ _ _ h => h) (by kernel_rfl) (fun W hS => by (obtain s1 := hS); go_simp; try with_reducible rfl) s3' ?_
    simp only [List.setIfInBounds_toArray, List.set_cons_succ, List.set_cons_zero]
    refine wpAnyH_do 17 25 rfl rfl (by kernel_rfl) (by kernel_rfl) (by kernel_rfl) (fun _ _ _ _ _ h => h) (by kernel_rfl) (fun W hS => by (obtain s1 := hS); go_simp; try with_reducible rfl) s3' ?_
    simp only [List.setIfInBounds_toArray, List.set_cons_succ, List.set_cons_zero]
    refine wpAnyH_one 16 rfl (by kernel_rfl) (by kernel_rfl) (fun K hK => ?_)
    go_simp
    refine (dfiles _ (HD.out.later B3)).mono ?_
    rintro e w4 ⟨v4, rfl, O4, B4⟩
    have B4' := bel B3 B4
    have s4' := (B4.cell (World.block_lt_of_cell? w3 _ s3')).trans s3'
    refine hK _ _ s4' ?_
    clear hK
    try simp only [Act.put, List.setIfInBounds_toArray, List.set_cons_zero, List.set_cons_succ]
    refine wpAnyH_one 18 rfl (by kernel_rfl) (by kernel_rfl) (fun K hK => ?_)
    go_simp
    refine (mfiles_any _ (HM.out.later B4')).mono ?_
    rintro e w5 ⟨v5, rfl, M5⟩
    have B5' := bel B4' M5.2
    have s5' := (M5.2.cell (World.block_lt_of_cell? w4 _ s4')).trans s4'
    refine hK _ _ s5' ?_
    clear hK
    try simp only [Act.put, List.setIfInBounds_toArray, List.set_cons_zero, List.set_cons_succ]
    refine wpAnyH_one 19 rfl (by kernel_rfl) (by kernel_rfl) (fun K hK => ?_)
    go_simp
    refine (sameInts_refl _ _ D.files _ (Rv.of_own (own_below O4 M5.2)) (by have := M5.rv; rwa [List.length_map] at this)).mono ?_
    rintro e w6 ⟨rfl, n6, rfl⟩
    have B6 := belD B5' n6
    refine hK _ _ s5' ?_
    clear hK
    have s6' : (w5.drewN n6).cell? ⟨q, 3, none⟩ = some (.bool off) := s5'
    generalize w5.drewN n6 = w6 at B6 s6' ⊢
    try simp only [Act.put, List.setIfInBounds_toArray, List.set_cons_zero, List.set_cons_succ]
    refine wpAnyH_do 20 28 rfl rfl (by kernel_rfl) (by kernel_rfl) (by kernel_rfl) (fun _ _ _ _ _ h => h) (by kernel_rfl) (fun W hS => by (obtain s1 := hS); go_simp; try with_reducible rfl) s6' ?_
    simp only [List.setIfInBounds_toArray, List.set_cons_succ, List.set_cons_zero]
    refine wpAnyH_do 21 29 rfl rfl (by kernel_rfl) (by kernel_rfl) (by kernel_rfl) (fun _ _ _ _ _ h => h) (by kernel_rfl) (fun W hS => by (obtain s1 := hS); go_simp; try with_reducible rfl) s6' ?_
    simp only [List.setIfInBounds_toArray, List.set_cons_succ, List.set_cons_zero]
    refine wpAnyH_done (by kernel_rfl) ?_ _
    go_wp2_with fail
    go_meet
    exact ⟨rfl, B6⟩
  case rest =>
  obtain ⟨rfl, B1⟩ := hcut
  rename World => w1
  go_wp2_with fail
  go_loopw [5] (fun u W => ∃ i : Nat, u = .int .i64 (i : Int) ∧ i ≤ 4 ∧ Below w.heap.size w W) (fun u _ => 4 - (intOf u).toNat)
  case atStart => exact ⟨0, rfl, Nat.zero_le _, B1⟩
  case round =>
    rename World => W
    obtain ⟨i, rfl, hi, B⟩ := hrel
    by_cases hlt : i < 4
    · have hlti : (i : Int) < 4 := by omega
      have hi64 : (i : Int) < 64 := by omega
      go_wp2_with fail
      refine (dread W (i : Int) (HD.out.later B)).mono ?_
      have hM := HM.out.later B
      cases ho : off
      · subst ho
        rw [read_on D (i : Int) ⟨by omega, hi64⟩ HO.out]
        rintro e w2 ⟨v2, rfl, O2, B2⟩
        have H2 := hM.later B2
        have B2' := bel B B2
        obtain ⟨a, c, _, hci, hrow, _⟩ := H2.at (show i < 64 by omega)
        have c1 := H2.c1
        have c3 := H2.c3
        rw [HO.out] at c3
        clear hM H2
        go_wp2_with fail
        refine (sameBytes_refl _ _ (D.fs (i : Int)).1 w2 (Rv.of_own O2) (Rv.of_own hrow)).mono ?_
        rintro e w3 ⟨rfl, n3, rfl⟩
        have B3 := belD B2' n3
        generalize w2.drewN n3 = w3 at B3 ⊢
        go_wp2_with fail
        go_roundw
        case rel => exact ⟨i + 1, by simp, hlt, B3⟩
        case measure => simp [intOf]; omega
      · subst ho
        rw [read_off D (i : Int) ⟨by omega, hi64⟩ HO.out]
        rintro e w2 ⟨v2, rfl, O2, B2⟩
        have H2 := hM.later B2
        have B2' := bel B B2
        replace O2 : w2.ownsRow W.heap.size 5 1 v2 0 [] := O2
        obtain ⟨a4, c4, rfl⟩ := own_isSlice O2
        have c3 := H2.c3
        rw [HO.out] at c3
        clear hM H2
        go_wp2_with fail
        go_roundw
        case rel => exact ⟨i + 1, by simp, hlt, B2'⟩
        case measure => simp [intOf]; omega
    · obtain rfl : i = 4 := by omega
      go_wp2_with fail
      go_ret
      exact ⟨rfl, B⟩
end Go.Proofs.Ytmofakcpldbbmaa
