/- The model of a log (rexmillref31): Open. -/
import Derived.Test.YtpehnggglolnoaaGreatJrB
namespace Go.Proofs.YtpehnggglolnoaaGreat
open Go.RowKit

/-- What the model's Open returns. -/
def MOpenPost (w : World) (q : Nat) (Y : Nat → Prop) (D : Dk) (f : Int) (en : Ending) (w' : World) : Prop :=
  MAt w' q Y (D.logOpen f).2.1 ∧ DStep Y Y w w' ∧
    ((D.logOpen f).1 = 0 ∧ (∃ z a c, en = .returned (.tuple #[.pointer (some ⟨z, 0, none⟩), .slice a (D.logOpen f).2.2.length c, .int .i64 0]) ∧ MLg w' z q f ⟨(D.logOpen f).2.2.length, false⟩ ∧ w.heap.size ≤ z ∧ ¬ Y z ∧ LsB w' (.slice a (D.logOpen f).2.2.length c) (D.logOpen f).2.2) ∨
      (D.logOpen f).1 ≠ 0 ∧ en = .returned (.tuple #[.pointer none, .slice none 0 0, .int .i64 (D.logOpen f).1]))
theorem mopen_end {w W : World} {q : Nat} {f : Int} {Y : Nat → Prop} {G : Dk} {a : Option Addr} {c base : Nat} {us : List Value} {K : List (List UInt8)} {O : Int × Dk × List (List UInt8)} (hO : (0, G, K) = O) (hD : MAt W q Y G) (S : DStep Y Y w W) (L : LsO W base (.slice a K.length c) us K) :
    MAt (W.alloc (mlO q f ⟨K.length, false⟩)) q Y O.2.1 ∧ DStep Y Y w (W.alloc (mlO q f ⟨K.length, false⟩)) ∧
    (O.1 = 0 ∧ (∃ z a' c', Ending.returned (.tuple #[.pointer (some ⟨W.heap.size, 0, none⟩), .slice a K.length c, .int .i64 0]) = .returned (.tuple #[.pointer (some ⟨z, 0, none⟩), .slice a' O.2.2.length c', .int .i64 0]) ∧ MLg (W.alloc (mlO q f ⟨K.length, false⟩)) z q f ⟨O.2.2.length, false⟩ ∧ w.heap.size ≤ z ∧ ¬ Y z ∧ LsB (W.alloc (mlO q f ⟨K.length, false⟩)) (.slice a' O.2.2.length c') O.2.2) ∨
      O.1 ≠ 0 ∧ Ending.returned (.tuple #[.pointer (some ⟨W.heap.size, 0, none⟩), .slice a K.length c, .int .i64 0]) = .returned (.tuple #[.pointer none, .slice none 0 0, .int .i64 O.1])) := by
  subst hO
  have B := (Below.refl W.heap.size W).alloc (Nat.le_refl _) (mlO q f ⟨K.length, false⟩)
  exact ⟨hD.later B, S.trans (DStep.ofBelow Y B), .inl ⟨rfl, W.heap.size, a, c, rfl, ⟨World.alloc_heap_new W _⟩, S.size, fun hx => by have := hD.yl _ hx; omega, L.ls.below B⟩⟩
set_option maxRecDepth 20000 in
set_option maxHeartbeats 1000000 in
theorem mopen_any (i : Nat) (hi : i < 64) (w : World) {q : Nat} {Y : Nat → Prop} {D : Dk} (h : MAt w q Y D) :
    Calls Tryz.prog 8 #[.pointer (some ⟨q, 0, none⟩), .int .i64 (i : Int)] w (MOpenPost w q Y D (i : Int)) := by
  have hok := h.ok
  have hl := hok.flen (i : Int)
  have HW := Bx.mk h
  have hyl := h.yl
  obtain ⟨gB, gF, vs, pl, hM⟩ := h
  obtain ⟨O, hO⟩ : ∃ O, D.logOpen (i : Int) = O := ⟨_, rfl⟩
  unfold MOpenPost
  rw [hO]
  unfold Dk.logOpen at hO
  have HO := Bx.mk hO
  have c3 := hM.1.c3
  clear hO
  go_enter Tryz.func8, Tryz.ntmps8
  cases ho : D.off
  · rw [ho] at c3
    have hO := HO.out
    have hr := read_at (D := D) (f := (i : Int)) ⟨by omega, by omega⟩ ho
    rw [hr, if_neg (by simp)] at hO
    obtain ⟨a1, c1, hv1, hc1, hrow, _⟩ := hM.1.at hi
    obtain ⟨bs, hbs⟩ : ∃ b, (D.fs (i : Int)).1 = b := ⟨_, rfl⟩
    unfold Dk.openT at hO
    rw [hbs] at hv1 hc1 hrow hl hO
    have HO := Bx.mk hO
    have hs1 := scanJ_len bs.length 0 bs
    change (scanL bs).2 ≤ _ ∧ (scanL bs).1.length ≤ (scanL bs).2 at hs1
    have hlow : Low w.heap.size (.slice a1 bs.length c1) := fun g hg => (hrow.lt g hg).2
    have cT := hM.1.c1
    have hsc := rscan_any (.slice a1 bs.length c1) bs w (Rv.of_own hrow) hlow (by omega)
    have HSC := Bx.mk hsc
    have hM0 := Bx.mk hM
    have hi' : (i : Int) < 64 := by omega
    clear hr hO hv1 hrow hlow hsc hM ho hbs
    go_wp2_with fail
    refine HSC.out.mono ?_
    rintro e w2 ⟨v2, us2, rfl, L2, B2⟩
    obtain ⟨s, hs⟩ : ∃ s, scanL bs = s := ⟨_, rfl⟩
    have hO := HO.out
    rw [hs] at L2 hs1 hO ⊢
    have HO := Bx.mk hO
    obtain ⟨m, hm⟩ : ∃ m, bs.length = m := ⟨_, rfl⟩
    obtain ⟨n, hn⟩ : ∃ n, s.2 = n := ⟨_, rfl⟩
    obtain ⟨k2, a2, c2, rfl⟩ := own_shape L2.own
    obtain rfl : k2 = s.1.length := own_k L2.own
    have hO := HO.out
    rw [hm, hn] at hO
    rw [hm] at hs1 hl hc1 ⊢
    rw [hn] at hs1 ⊢
    have HO := Bx.mk hO
    have hM2 : MoX w2 q gB gF vs pl Y D := ⟨hM0.out.1.later B2, hM0.out.2⟩
    have hY2 : ∀ b, Y b → b < w.heap.size := hyl
    have S2 := DStep.ofBelow Y B2
    have cT2 := hM2.1.c1
    have hc2 : w2.cell? ⟨gB, i, none⟩ = some (.slice a1 m c1) := (B2.cell (p := ⟨gB, i, none⟩) (World.block_lt_of_cell? _ _ hc1)).trans hc1
    have hql : (s.1.length : Int) ≤ 16777216 := by omega
    have hml : (m : Int) ≤ 16777216 := by omega
    have hnl : (n : Int) ≤ (m : Int) := by omega
    have HM2 := Bx.mk hM2
    clear hO hs hm hn B2 HW hM0 cT hc1 c3 HSC hM2
    by_cases hlt : n < m
    · have hO := HO.out
      rw [if_pos hlt] at hO
      obtain ⟨⟨r, E⟩, hT⟩ : ∃ T, D.trunc (i : Int) (n : Int) = T := ⟨_, rfl⟩
      rw [hT] at hO
      change (if r ≠ 0 then (r, E, []) else if E.sync.1 ≠ 0 then (E.sync.1, E.sync.2, []) else (0, E.sync.2, s.1)) = O at hO
      have htr := mtrunc_raw (i : Int) (n : Int) (by omega) w2 HM2.out
      rw [hT] at htr
      have HT := Bx.mk htr
      have HO := Bx.mk hO
      clear hO hT htr
      go_wp2_with fail
      refine HT.out.mono ?_
      rintro e w3 ⟨rfl, ⟨vs3, pl3, hM3⟩, T3'⟩
      change MoX w3 q gB gF vs3 pl3 Y E at hM3
      have L3 := L2.t3 HM2.out hY2 T3'
      have S3 := S2.trans (T3'.up HM2.out.t3)
      have HM3 := Bx.mk hM3
      clear L2 S2 HM2 T3' cT2 hc2 hM3 HT
      by_cases hr : r = 0
      · subst hr
        have hO := HO.out
        rw [if_neg (by simp)] at hO
        obtain ⟨⟨r, G⟩, hG⟩ : ∃ A, E.sync = A := ⟨_, rfl⟩
        rw [hG] at hO
        change (if r ≠ 0 then (r, G, []) else (0, G, s.1)) = O at hO
        have hsy := msync_raw w3 HM3.out
        rw [hG] at hsy
        have HS := Bx.mk hsy
        have HO := Bx.mk hO
        clear hO hG hsy
        go_wp2_with fail
        refine HS.out.mono ?_
        rintro e w4 ⟨rfl, ⟨vs4, pl4, hM4⟩, T4⟩
        change MoX w4 q gB gF vs4 pl4 Y G at hM4
        have L4 := L3.t3 HM3.out hY2 T4
        have S4 := S3.trans (T4.up HM3.out.t3)
        have D4 : MAt w4 q Y G := ⟨gB, gF, vs4, pl4, hM4⟩
        clear L3 S3 HM3 T4 hM4 HS
        by_cases hr : r = 0
        · subst hr
          have hO := HO.out
          rw [if_neg (by simp)] at hO
          have HO := Bx.mk hO
          clear hO
          go_wp2_with fail
          go_ret3
          exact mopen_end HO.out D4 S4 L4
        · have hO := HO.out
          rw [if_pos hr] at hO
          go_wp2_with fail
          go_ret3
          rw [← hO]
          exact ⟨D4, S4, .inr ⟨hr, rfl⟩⟩
      · have hO := HO.out
        rw [if_pos hr] at hO
        go_wp2_with fail
        go_ret3
        rw [← hO]
        exact ⟨⟨gB, gF, vs3, pl3, HM3.out⟩, S3, .inr ⟨hr, rfl⟩⟩
    · have hO := HO.out
      rw [if_neg hlt, if_neg (by simp)] at hO
      change (if D.sync.1 ≠ 0 then (D.sync.1, D.sync.2, []) else (0, D.sync.2, s.1)) = O at hO
      obtain ⟨⟨r, G⟩, hG⟩ : ∃ A, D.sync = A := ⟨_, rfl⟩
      rw [hG] at hO
      change (if r ≠ 0 then (r, G, []) else (0, G, s.1)) = O at hO
      have hsy := msync_raw w2 HM2.out
      rw [hG] at hsy
      have HS := Bx.mk hsy
      have HO := Bx.mk hO
      clear hO hG hsy
      go_wp2_with fail
      refine HS.out.mono ?_
      rintro e w4 ⟨rfl, ⟨vs4, pl4, hM4⟩, T4⟩
      change MoX w4 q gB gF vs4 pl4 Y G at hM4
      have L4 := L2.t3 HM2.out hY2 T4
      have S4 := S2.trans (T4.up HM2.out.t3)
      have D4 : MAt w4 q Y G := ⟨gB, gF, vs4, pl4, hM4⟩
      clear L2 S2 HM2 T4 hM4 HS
      by_cases hr : r = 0
      · subst hr
        have hO := HO.out
        rw [if_neg (by simp)] at hO
        have HO := Bx.mk hO
        clear hO
        go_wp2_with fail
        go_ret3
        exact mopen_end HO.out D4 S4 L4
      · have hO := HO.out
        rw [if_pos hr] at hO
        go_wp2_with fail
        go_ret3
        rw [← hO]
        exact ⟨D4, S4, .inr ⟨hr, rfl⟩⟩
  · rw [ho] at c3
    have hO := HO.out
    have hr : D.read (i : Int) = ([], 19) := by unfold Dk.read; rw [if_neg (by omega), ho]; rfl
    rw [hr, if_pos (by simp)] at hO
    have HO := Bx.mk hO
    clear hO hr
    go_wp2_with fail
    go_ret3
    rw [← HO.out]
    exact ⟨HW.out, DStep.refl _ _, .inr ⟨by simp, rfl⟩⟩
end Go.Proofs.YtpehnggglolnoaaGreat
