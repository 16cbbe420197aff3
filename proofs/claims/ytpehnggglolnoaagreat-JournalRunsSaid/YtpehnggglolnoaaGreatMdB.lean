/- The model of a disk: Used, Files, step, Arm, Sync. -/
import Derived.Test.YtpehnggglolnoaaGreatMdA
import Derived.StillTailTactics
namespace Go.Proofs.YtpehnggglolnoaaGreat
open Go.RowKit

theorem sumL_mono (f : Nat → Nat) {m n : Nat} (h : m ≤ n) : sumL f m ≤ sumL f n := by
  induction n with
  | zero => obtain rfl : m = 0 := by omega
            exact Nat.le_refl _
  | succ n ih =>
    rw [sumL_succ]
    by_cases e : m = n + 1
    · subst e; rw [sumL_succ]; exact Nat.le_refl _
    · have := ih (by omega); omega
section
variable {q gB gF : Nat} {D : Dk} {vs : List Value} {fm : List Int} {room : Int} {off : Bool} {pl : Int} {Y : Nat → Prop}
set_option maxRecDepth 10000 in
theorem mused_any (w : World) {D : Dk} (h : MoR w q gB gF vs (fun i => (D.fs (i : Int)).1) fm room off pl Y) (hu : D.used ≤ 16777216) :
    Calls Tryz.prog 51 #[.pointer (some ⟨q, 0, none⟩)] w fun e w' => e = .returned (.int .i64 (D.used : Int)) ∧ ∃ n, w' = w.drewN n := by
  have c1 := h.c1
  obtain ⟨f, hf⟩ : ∃ f : Nat → Nat, (fun (i : Nat) => (D.fs (i : Int)).1.length) = f := ⟨_, rfl⟩
  have hmono : ∀ i, i ≤ 64 → sumL f i ≤ 16777216 := fun i hi => by
    have h1 := sumL_mono f hi
    have h2 : D.used = sumL f 64 := by unfold Dk.used; rw [hf]
    omega
  have HU := Bx.mk (show D.used = sumL f 64 by unfold Dk.used; rw [hf])
  have hat : ∀ i, i < 64 → ∃ a c, w.cell? ⟨gB, i, none⟩ = some (.slice a (f i) c) := fun i hi => by
    obtain ⟨a, c, _, h1, _⟩ := h.at hi
    rw [← hf]
    exact ⟨a, c, h1⟩
  rw [HU.out]
  have HM := Bx.mk hmono
  have HA := Bx.mk hat
  clear hmono hat h hf hu HU
  go_enter Tryz.func51, Tryz.ntmps51
  go_wp2_with fail
  go_loop [3, 4] (fun u v => ∃ (i s : Nat), u = .int .i64 (s : Int) ∧ v = .int .i64 (i : Int) ∧ i ≤ 64 ∧ s ≤ 16777216 ∧ Bx (sumL f i = s)) (fun _ v => 64 - (match v with | .int _ k => k.toNat | _ => 0))
  case atStart => exact ⟨0, 0, rfl, rfl, Nat.zero_le _, Nat.zero_le _, ⟨rfl⟩⟩
  case round =>
    obtain ⟨i, s, rfl, rfl, hi, hs, HS⟩ := hrel
    by_cases hlt : i < 64
    · obtain ⟨a, c, hc⟩ := HA.out i hlt
      have h1 := HM.out (i + 1) hlt
      rw [sumL_succ, HS.out] at h1
      obtain ⟨n, hn⟩ : ∃ n, f i = n := ⟨_, rfl⟩
      rw [hn] at hc h1
      have HS2 : Bx (sumL f (i + 1) = s + n) := ⟨by rw [sumL_succ, HS.out, hn]⟩
      clear hn
      go_wp2_with fail
      go_round
      case rel => exact ⟨i + 1, s + n, by simp, by simp, hlt, h1, HS2⟩
      case measure => show 64 - ((i : Int) + 1).toNat < 64 - ((i : Int)).toNat; omega
    · obtain rfl : i = 64 := by omega
      go_wp2_with fail
      go_ret
      rw [HS.out]
      exact ⟨rfl, 0, rfl⟩
set_option maxRecDepth 10000 in
theorem mfails_any (w : World) (L : Nat) {bs : Nat → List UInt8} (h : MoR w q gB gF vs bs fm room false (L : Int) Y) (hl : L ≤ 9223372036854775807) :
    Calls Tryz.prog 62 #[.pointer (some ⟨q, 0, none⟩)] w fun e w' => e = .returned (.bool (decide (L = 0))) ∧ MoR w' q gB gF vs bs fm room (decide (L = 0)) ((L : Int) - 1) Y ∧ PStep q w w' := by
  have hb := h.blk
  unfold moO at hb
  have c4 := h.c4
  have c3 := h.c3
  have fz := fun j => h.fz j
  have HH := Bx.mk h
  have HB := Bx.mk hb
  clear h hb
  have hw : wrap64 ((L : Int) - 1) = (L : Int) - 1 := by unfold wrap64; omega
  have hlm : ¬ ((L : Int) - 1 < -2) := by omega
  by_cases h0 : L = 0
  · subst h0
    go_enter Tryz.func62, Tryz.ntmps62
    go_wp2_with fail
    go_ret
    refine ⟨rfl, ?_, ((PStep.refl q w).set 4 _).set 3 _⟩
    refine HH.out.turn ?_ (by simp) (fun k _ hp => (Below.heap_setCell _ _ _ _ hp).trans (Below.heap_setCell _ _ _ _ hp))
    have := setBlk (setBlk HB.out 4 (.int .i64 (-1))) 3 (.bool true)
    simp only [List.setIfInBounds_toArray, List.set_cons_succ, List.set_cons_zero] at this
    unfold moO
    exact this
  · have hne : ¬ ((L : Int) - 1 = -1) := by omega
    have h01 : (0 : Int) < (L : Int) := by omega
    have hbe : ((L : Int) - 1 == -1) = false := by simpa using hne
    have hL0 : decide (L = 0) = false := decide_eq_false h0
    rw [hL0]
    clear hL0
    go_enter Tryz.func62, Tryz.ntmps62
    go_wp2_with fail
    go_ret
    refine ⟨rfl, ?_, (PStep.refl q w).set 4 _⟩
    rw [show max ((L : Int) - 1) (-2) = (L : Int) - 1 by omega]
    refine HH.out.turn ?_ (by simp) (fun k _ hp => Below.heap_setCell _ _ _ _ hp)
    have := setBlk HB.out 4 (.int .i64 ((L : Int) - 1))
    simp only [List.setIfInBounds_toArray, List.set_cons_succ, List.set_cons_zero] at this
    unfold moO
    exact this
/-- A change of the model's own block. -/
theorem mstep_any (w : World) {D : Dk} {bs : Nat → List UInt8} (h : MoR w q gB gF vs bs fm room D.off pl Y) (hp : PlanOf D pl) (hl : D.left ≤ 9223372036854775807) (ho : D.off = false) :
    Calls Tryz.prog 48 #[.pointer (some ⟨q, 0, none⟩)] w fun e w' => e = .returned (.bool D.failsB) ∧ (∃ pl', MoR w' q gB gF vs bs fm room D.fails.off pl' Y ∧ PlanOf D.fails pl') ∧ PStep q w w' := by
  rw [ho] at h
  have c4 := h.c4
  unfold Dk.failsB
  cases ha : D.armed
  · obtain ⟨h1, h2⟩ := hp.2 ha
    have hfl : D.fails = D := by unfold Dk.fails; rw [ha]; rfl
    rw [hfl, ho]
    have hlt : decide (pl < 0) = true := decide_eq_true h2
    have HP := Bx.mk hp
    clear hp ha ho hfl hl
    go_enter Tryz.func48, Tryz.ntmps48
    go_wp2_with fail
    go_ret
    exact ⟨rfl, ⟨pl, h, HP.out⟩, PStep.refl _ _⟩
  · obtain rfl := hp.1 ha
    obtain ⟨L, hL⟩ : ∃ L, D.left = L := ⟨_, rfl⟩
    have hfo : D.fails.off = decide (L = 0) ∧ PlanOf D.fails ((L : Int) - 1) := by
      unfold Dk.fails
      rw [ha, if_pos rfl, hL]
      by_cases h0 : 0 < L
      · rw [if_pos h0, decide_eq_false (show ¬ L = 0 by omega)]
        exact ⟨ho, fun _ => by show _ = ((L - 1 : Nat) : Int); omega, fun h => by rw [show (true = false) = False by simp] at h; exact h.elim⟩
      · rw [if_neg h0, decide_eq_true (show L = 0 by omega)]
        exact ⟨rfl, (fun h => by cases h), (fun _ => by omega)⟩
    rw [hL] at h c4 hl ⊢
    have HF := Bx.mk hfo
    have hlt : ¬ (L : Int) < 0 := by omega
    clear hp hL hfo ho ha
    go_enter Tryz.func48, Tryz.ntmps48
    go_wp2_with fail
    refine (mfails_any w L h hl).mono ?_
    rintro e w2 ⟨rfl, H2, P2⟩
    go_wp2_with fail
    go_ret
    refine ⟨by simp, ⟨_, ?_, HF.out.2⟩, P2⟩
    rw [HF.out.1]
    exact H2
set_option maxRecDepth 10000 in
theorem marm_any (n : Int) (hn : n ≤ 9223372036854775807) (w : World) (h : MAt w q Y D) : Calls Tryz.prog 10 #[.pointer (some ⟨q, 0, none⟩), .int .i64 n] w fun e w' => e = .returned (.tuple #[]) ∧ MAt w' q Y (D.arm n) ∧ DStep Y Y w w' := by
  obtain ⟨gB, gF, vs, pl, h, hp, hk⟩ := h
  have c3 := h.c3
  have c4 := h.c4
  have fz := fun j => h.fz j
  have hyq := h.yq
  have hb := h.blk
  unfold moO at hb
  have HH := Bx.mk h
  have HP := Bx.mk hp
  have HK := Bx.mk hk
  have HB := Bx.mk hb
  unfold Dk.arm
  clear h hp hk hb
  go_enter Tryz.func10, Tryz.ntmps10
  cases ho : D.off
  · rw [ho] at c3
    by_cases h0 : 0 ≤ n
    · have hm : max n (-1) = n := by omega
      have hlm : ¬ n < -1 := by omega
      go_wp2_with fail
      go_end0
      refine ⟨rfl, ⟨gB, gF, vs, n, ?_, ⟨fun _ => by show n = ((n.toNat : Nat) : Int); omega, (fun h => by cases h)⟩, HK.out.out, HK.out.dur, HK.out.room, HK.out.used, by show n.toNat ≤ _; omega⟩, ((PStep.refl q w).set 4 _).toD hyq⟩
      refine HH.out.turn ?_ (by simp) (fun k _ hp => Below.heap_setCell _ _ _ _ hp)
      have := setBlk HB.out 4 (.int .i64 n)
      rw [ho] at this
      simp only [List.setIfInBounds_toArray, List.set_cons_succ, List.set_cons_zero] at this
      unfold moO
      exact this
    · have hm : max n (-1) = -1 := by omega
      have hlm : ¬ -1 < n := by omega
      go_wp2_with fail
      go_end0
      refine ⟨rfl, ⟨gB, gF, vs, -1, ?_, ⟨fun h => absurd (of_decide_eq_true h) (by omega), fun _ => by omega⟩, HK.out.out, HK.out.dur, HK.out.room, HK.out.used, by show n.toNat ≤ _; omega⟩, ((PStep.refl q w).set 4 _).toD hyq⟩
      refine HH.out.turn ?_ (by simp) (fun k _ hp => Below.heap_setCell _ _ _ _ hp)
      have := setBlk HB.out 4 (.int .i64 (-1))
      rw [ho] at this
      simp only [List.setIfInBounds_toArray, List.set_cons_succ, List.set_cons_zero] at this
      unfold moO
      exact this
  · rw [ho] at c3
    go_wp2_with fail
    go_end0
    exact ⟨rfl, ⟨gB, gF, vs, pl, HH.out, HP.out, HK.out⟩, DStep.refl _ _⟩
end
end Go.Proofs.YtpehnggglolnoaaGreat
