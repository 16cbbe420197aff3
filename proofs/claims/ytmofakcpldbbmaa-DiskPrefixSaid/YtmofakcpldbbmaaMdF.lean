/- The model of a disk: Rot. -/
import Derived.Test.YtmofakcpldbbmaaMdE
namespace Go.Proofs.Ytmofakcpldbbmaa
open Go.RowKit

theorem maskI2 (x : UInt8) (r : Nat) (h : r < 8) : bits BinOp.xor IntKind.u8 (x.toNat : Int) (2 ^ (7 - r) % 256) = ((x ^^^ maskB r).toNat : Int) := by
  rw [← maskI x r h]
  congr 1
  have h8 : r = 0 ∨ r = 1 ∨ r = 2 ∨ r = 3 ∨ r = 4 ∨ r = 5 ∨ r = 6 ∨ r = 7 := by omega
  rcases h8 with h | h | h | h | h | h | h | h <;> subst h <;> decide
set_option maxRecDepth 20000 in
set_option maxHeartbeats 1000000 in
theorem mrot_any (k bit : Int) (hb64 : bit ≤ 9223372036854775807) (w : World) {q : Nat} {Y : Nat → Prop} {D : Dk} (h : MAt w q Y D) :
    Calls Try.prog 35 #[.pointer (some ⟨q, 0, none⟩), .int .i64 k, .int .i64 bit] w fun e w' => e = .returned (.int .i64 (D.rot k bit).1) ∧ ∃ Y', MAt w' q Y' (D.rot k bit).2 ∧ DStep Y Y' w w' := by
  obtain ⟨gB, gF, vs, pl, hm, hp, hok⟩ := h
  have c1 := hm.c1
  have HM := Bx.mk hm
  have HP := Bx.mk hp
  have HK := Bx.mk hok
  have hyq := hm.yq
  clear hp hok
  go_enter Try.func35, Try.ntmps35
  have same : D.rot k bit = (1, D) → MAt w q Y (D.rot k bit).2 ∧ (D.rot k bit).1 = 1 := fun e => by rw [e]; exact ⟨⟨gB, gF, vs, pl, HM.out, HP.out, HK.out⟩, rfl⟩
  have SM := Bx.mk same
  clear same
  by_cases hk : 0 ≤ k ∧ k < 64
  · have hk0 : ¬ k < 0 := by omega
    have hk1 : ¬ 63 < k := by omega
    obtain ⟨i, rfl⟩ : ∃ i : Nat, k = (i : Int) := ⟨k.toNat, by omega⟩
    have hi : i < 64 := by omega
    by_cases hs0 : bit < 0
    · obtain ⟨h1, h2⟩ := SM.out (by unfold Dk.rot; rw [if_pos (.inr (.inl hs0))])
      rw [h2]
      have H1 := Bx.mk h1
      clear h1 h2 hm
      go_wp2_with fail
      go_ret
      exact ⟨rfl, Y, H1.out, DStep.refl _ _⟩
    · obtain ⟨a, c, hvi, hci, hrow, hblk⟩ := hm.at hi
      obtain ⟨bn, rfl⟩ : ∃ bn : Nat, bit = (bn : Int) := ⟨bit.toNat, by omega⟩
      obtain ⟨x, hx⟩ : ∃ x, (D.fs (i : Int)).1 = x := ⟨_, rfl⟩
      have hlen : x.length ≤ 16777216 := by
        have h1 := D.le_used (i : Int) hk.1 hk.2
        have h2 := HK.out.used
        have h3 := HK.out.room
        rw [hx] at h1
        omega
      have HX := Bx.mk hx
      rw [hx] at hvi hci hrow hblk
      obtain ⟨n, hn⟩ : ∃ n, x.length = n := ⟨_, rfl⟩
      rw [hn] at hvi hci hrow hblk hlen
      have HN := Bx.mk hn
      have hi' : (i : Int) < 64 := by omega
      obtain ⟨o, ho⟩ : ∃ o, bn / 8 = o := ⟨_, rfl⟩
      obtain ⟨r, hr⟩ : ∃ r, bn % 8 = r := ⟨_, rfl⟩
      have hq1 : ((bn : Int)).tdiv 8 = (o : Int) := by rw [Int.tdiv_eq_ediv_of_nonneg (by omega)]; omega
      have hq2 : ((bn : Int)) / 8 = (o : Int) := by omega
      have hq3 : ((bn : Int)).tmod 8 = (r : Int) := by rw [Int.tmod_eq_emod_of_nonneg (by omega)]; omega
      have hq4 : ((bn : Int)) % 8 = (r : Int) := by omega
      have hr8 : r < 8 := by omega
      have hr8i : (r : Int) < 8 := by omega
      have HO := Bx.mk ho
      have HR := Bx.mk hr
      clear hx hn ho hr
      by_cases hs1 : n ≤ o
      · have hs1i : (n : Int) ≤ (o : Int) := by omega
        obtain ⟨h1, h2⟩ := SM.out (by unfold Dk.rot; rw [if_pos (.inr (.inr (by rw [HX.out, HN.out]; have := HO.out; omega)))])
        rw [h2]
        have H1 := Bx.mk h1
        clear h1 h2 hm hrow hblk hvi
        go_wp2_with fail
        go_ret
        exact ⟨rfl, Y, H1.out, DStep.refl _ _⟩
      · have hs1i : ¬ (n : Int) ≤ (o : Int) := by omega
        have hon : o < n := by omega
        have hoi : (o : Int) < (n : Int) := by omega
        have hA : D.rot (i : Int) (bn : Int) = (0, D.put (i : Int) (flipB x bn) (D.fs (i : Int)).2) := by
          unfold Dk.rot
          rw [if_neg (fun h => h.elim (fun h => h hk) (fun h => h.elim hs0 (fun h => by rw [HX.out, HN.out] at h; have := HO.out; omega))), HX.out, Int.toNat_natCast]
        have HA := Bx.mk hA
        have hvl := hm.vl
        have HLOW := Bx.mk (show ∀ (j : Nat) (u : Value), vs[j]? = some u → ∀ y, u.ownBlock = some y → y < w.heap.size from fun j u hu y hy => ((hm.row j u hu).1.lt y hy).2)
        obtain ⟨z, hz⟩ : ∃ z, x[o]? = some z := ⟨_, List.getElem?_eq_getElem (by rw [HN.out]; exact hon)⟩
        have HZ := Bx.mk hz
        clear hA hm hvi hblk hz hvl
        go_wp2_with (at_builtin; go_loud (refine wpList_app2 _ rfl _ _ rfl Try.elB w.heap.size (.slice none 0 0) 0 [] rfl (World.ownsRow_nil _ _ _ _) _ n _ rfl (Rv.of_own hrow) (by rw [List.length_map, HN.out]; simp) (ones_B _) (by omega) (Nat.le_refl _) ?_; intro v5 w5 O5 g5 s5; refine later ?_))
        refine Later.in ?_
        rw [List.nil_append, Nat.zero_add] at O5
        obtain ⟨m, hm⟩ : ∃ m, n = m + 1 := ⟨n - 1, by omega⟩
        have O5' := O5
        rw [hm] at O5'
        obtain ⟨g, c5, rfl, _, hcap, hcell, hfrz⟩ := own_open O5'
        rw [← hm] at hcap hcell
        rw [← hm] at O5
        have hcx := hcell o hon
        rw [List.getElem?_map, HZ.out] at hcx
        simp only [Option.map_some, vB] at hcx
        have hfz := hfrz o
        have hX8 := maskI2 z r hr8
        obtain ⟨y, hy⟩ : ∃ y, z ^^^ maskB r = y := ⟨_, rfl⟩
        rw [hy] at hX8
        have hst := (O5.stored o (vB y)).1
        have hfs := flipB_set x bn z (by rw [HO.out]; exact HZ.out)
        rw [HO.out, HR.out, hy] at hfs
        rw [← List.map_set, ← hfs] at hst
        have B5 : Below w.heap.size w w5 := (Below.refl _ _).grown g5 (Nat.le_refl _) (fun g hg => by cases hg)
        have hgw := (O5.lt g rfl).1
        rw [← hm]
        have HST := Bx.mk hst
        have HX8 := Bx.mk hX8
        have H5 := HM.out.later B5
        clear hm hcell hfrz hst hfs hX8 O5 O5' hrow g5 s5 hy
        have hoc : (o : Int) < (c5 : Int) := by omega
        go_upto_region 6 with fail
        rw [HX8.out]
        have hb6 : ∀ j, j ≠ g → (w5.setCell ⟨g, o, none⟩ (vB y)).heap[j]? = w5.heap[j]? := fun j hj => Below.heap_setCell _ _ _ _ hj
        have hYg : ∀ j, Y j → j ≠ g := fun j hj e => by have := HM.out.yl j hj; omega
        have H6 := H5.kept (w' := w5.setCell ⟨g, o, none⟩ (vB y)) (by simp) (fun j hj => hb6 j (hYg j hj))
        have O6 := HST.out
        have S6 : DStep Y Y w (w5.setCell ⟨g, o, none⟩ (vB y)) := DStep.ofBelow Y (B5.setCell (p := ⟨g, o, none⟩) hgw _)
        unfold vB at H6 O6 S6
        generalize w5.setCell ⟨g, o, none⟩ (.int .u8 (y.toNat : Int)) = w6 at H6 O6 S6 ⊢
        have hfl := flipB_len x bn
        rw [HN.out] at hfl
        obtain ⟨fb, hfb⟩ : ∃ fb, flipB x bn = fb := ⟨_, rfl⟩
        have hA := HA.out
        rw [hfb] at hfl hA O6
        have HA := Bx.mk hA
        obtain ⟨a0, c0, _, hc6, _, _⟩ := H6.at hi
        have hz6 := H6.tab i
        have c16 := H6.c1
        have hroom : ((D.put (i : Int) fb (D.fs (i : Int)).2).used : Int) ≤ D.room := by
          have h1 := D.used_put (i : Int) fb (D.fs (i : Int)).2 hk.1 hk.2
          rw [HX.out, HN.out, hfl] at h1
          have h2 := HK.out.used
          omega
        have hdz := HK.out.dur (i : Int)
        rw [HX.out, HN.out] at hdz
        have HOK := Bx.mk (put_ok HK.out hk (b := fb) (d := (D.fs (i : Int)).2) (by rw [hfl]; exact hdz) hroom)
        have HPUT := Bx.mk (H6.put hi (v := .slice (some ⟨g, 0, none⟩) n c5) (b := fb) (by rw [hfl]; exact own_base O6 (Nat.zero_le _)) (fun j hj => by
          have e : g = j := Option.some.inj hj
          subst e
          exact ⟨fun e => hYg q H6.yq e.symm, fun e => hYg gB H6.yb e.symm, fun e => hYg gF H6.yf e.symm, fun j u _ hu e => by have := HLOW.out j u hu g e; omega⟩) (fun e => by rw [e] at hfl; simp at hfl; omega))
        have HS7 := Bx.mk (show DStep Y (fun j => Y j ∨ (Value.slice (some ⟨g, 0, none⟩) n c5).ownBlock = some j) w (w6.setCell ⟨gB, i, none⟩ (.slice (some ⟨g, 0, none⟩) n c5)) from
          ⟨S6.os, S6.tape, S6.output, by rw [World.size_setCell]; exact S6.size, fun j hj hY => (Below.heap_setCell _ _ _ _ (fun e => hY (by rw [e]; exact H6.yb))).trans (S6.block j hj hY), fun j hj => hj.elim .inl (fun hj => .inr (by have e : g = j := Option.some.inj hj; omega))⟩)
        clear H6 O6 S6 hb6 hYg hfl hfb hA hroom hdz HST HX8 H5 B5 hcx hfz
        go_wp2_with fail
        go_ret
        rw [HA.out]
        exact ⟨rfl, _, ⟨gB, gF, _, pl, HPUT.out, HP.out, HOK.out⟩, HS7.out⟩
  · obtain ⟨h1, h2⟩ := SM.out (by unfold Dk.rot; rw [if_pos (.inl hk)])
    rw [h2]
    have H1 := Bx.mk h1
    clear h1 h2 hm
    by_cases hk0 : k < 0
    · go_wp2_with fail
      go_ret
      exact ⟨rfl, Y, H1.out, DStep.refl _ _⟩
    · have hk1 : 63 < k := by omega
      go_wp2_with fail
      go_ret
      exact ⟨rfl, Y, H1.out, DStep.refl _ _⟩
end Go.Proofs.Ytmofakcpldbbmaa
