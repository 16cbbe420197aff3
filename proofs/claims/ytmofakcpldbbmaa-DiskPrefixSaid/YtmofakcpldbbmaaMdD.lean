/- The model of a disk: Sync, Truncate. -/
import Derived.Test.YtmofakcpldbbmaaMdC
namespace Go.Proofs.Ytmofakcpldbbmaa
open Go.RowKit

def hardF (E : Dk) (i : Nat) : List Int := (List.range 64).map fun (j : Nat) => if j < i then ((E.fs (j : Int)).1.length : Int) else ((E.fs (j : Int)).2 : Int)
theorem hardF_0 (E : Dk) : hardF E 0 = durs E := rfl
theorem hardF_64 (E : Dk) : hardF E 64 = durs E.harden := by
  unfold hardF durs
  refine List.map_congr_left fun j hj => ?_
  rw [if_pos (List.mem_range.1 hj)]
  rfl
theorem hardF_at (E : Dk) {i j : Nat} (hj : j < 64) : (hardF E i)[j]? = some (if j < i then ((E.fs (j : Int)).1.length : Int) else ((E.fs (j : Int)).2 : Int)) := by
  unfold hardF
  rw [List.getElem?_map, List.getElem?_range hj]
  rfl
theorem hardF_set (E : Dk) {i : Nat} (hi : i < 64) : (hardF E i).set i ((E.fs (i : Int)).1.length : Int) = hardF E (i + 1) := by
  apply List.ext_getElem?
  intro j
  rw [List.getElem?_set]
  by_cases hj : j < 64
  · by_cases e : i = j
    · subst e
      rw [if_pos rfl, if_pos (by simp [hardF]; exact hi), hardF_at E hi, if_pos (Nat.lt_succ_self _)]
    · rw [if_neg e, hardF_at E hj, hardF_at E hj]
      by_cases h : j < i
      · rw [if_pos h, if_pos (by omega)]
      · rw [if_neg h, if_neg (by omega)]
  · rw [if_neg (by omega), List.getElem?_eq_none (by simp [hardF]; omega), List.getElem?_eq_none (by simp [hardF]; omega)]
theorem harden_ok {D : Dk} (h : DOk D) : DOk D.harden := by
  refine ⟨fun k hk => ?_, fun k => Nat.le_refl _, h.room, h.used, h.left⟩
  have := h.out k hk
  simp only [Dk.harden, this]
  rfl
set_option maxRecDepth 20000 in
set_option maxHeartbeats 1000000 in
theorem msync_any (w : World) {q : Nat} {Y : Nat → Prop} {D : Dk} (h : MAt w q Y D) :
    Calls Try.prog 44 #[.pointer (some ⟨q, 0, none⟩)] w fun e w' => e = .returned (.int .i64 D.sync.1) ∧ MAt w' q Y D.sync.2 ∧ DStep Y Y w w' := by
  obtain ⟨gB, gF, vs, pl, hm, hp, hok⟩ := h
  have c3 := hm.c3
  have HM := Bx.mk hm
  have HP := Bx.mk hp
  have HK := Bx.mk hok
  have hyq := hm.yq
  clear hm hp hok
  go_enter Try.func44, Try.ntmps44
  cases ho : D.off
  · rw [ho] at c3
    have hA : D.sync = if D.failsB then (19, D.fails) else (0, D.fails.harden) := by unfold Dk.sync; rw [ho, if_neg (by simp)]
    have HA := Bx.mk hA
    have HST := Bx.mk (mstep_any w HM.out HP.out HK.out.left ho)
    clear hA ho
    go_wp2_with fail
    refine HST.out.mono ?_
    rintro e w2 ⟨rfl, ⟨pl2, H2, P2⟩, Q2⟩
    have S2 := Q2.toD hyq
    have hok2 := fails_ok HK.out
    obtain ⟨f1, f2⟩ := fails_fs D
    rw [← f2, show (fun (i : Nat) => (D.fs (i : Int)).1) = fun (i : Nat) => (D.fails.fs (i : Int)).1 by rw [f1], show durs D = durs D.fails by unfold durs; rw [f1]] at H2
    have hA := HA.out
    obtain ⟨fv, hfv⟩ : ∃ v, D.failsB = v := ⟨_, rfl⟩
    rw [hfv] at hA ⊢
    obtain ⟨E, hE⟩ : ∃ E, D.fails = E := ⟨_, rfl⟩
    rw [hE] at H2 P2 hok2 hA
    have HA := Bx.mk hA
    have HP2 := Bx.mk P2
    have HK2 := Bx.mk hok2
    clear HST hA hfv Q2 c3 P2 hok2 f1 f2 hE
    cases fv
    · go_wp2_with fail
      go_loopw [4] (fun u W => ∃ (i : Nat), u = .int .i64 (i : Int) ∧ i ≤ 64 ∧ MoR W q gB gF vs (fun i => (E.fs (i : Int)).1) (hardF E i) E.room E.off pl2 Y ∧ DStep Y Y w W) (fun u _ => 64 - (match u with | .int _ k => k.toNat | _ => 0))
      case atStart => exact ⟨0, rfl, Nat.zero_le _, H2, S2⟩
      case round =>
        rename World => W
        obtain ⟨i, rfl, hi, H3, S3⟩ := hrel
        by_cases hlt : i < 64
        · have hlti : (i : Int) < 64 := by omega
          obtain ⟨a, c, hvi, hci, hrow, hblk⟩ := H3.at hlt
          have hfi := H3.fat hlt (hardF_at E hlt)
          have hset := hardF_set E hlt
          have HFS := Bx.mk (H3.firm i ((E.fs (i : Int)).1.length : Int))
          obtain ⟨L, hL⟩ : ∃ L, (E.fs (i : Int)).1.length = L := ⟨_, rfl⟩
          rw [hL] at hci hset HFS
          rw [if_neg (Nat.lt_irrefl _)] at hfi
          rw [hset] at HFS
          obtain ⟨d0, hd0⟩ : ∃ d, ((E.fs (i : Int)).2 : Int) = d := ⟨_, rfl⟩
          rw [hd0] at hfi
          have c1d : W.drew.cell? ⟨q, 1, none⟩ = some (.slice (some ⟨gB, 0, none⟩) 64 64) := H3.c1
          have c2d : W.drew.cell? ⟨q, 2, none⟩ = some (.slice (some ⟨gF, 0, none⟩) 64 64) := H3.c2
          have hcid : W.drew.cell? ⟨gB, i, none⟩ = some (.slice a L c) := hci
          have hfid : W.drew.cell? ⟨gF, i, none⟩ = some (.int .i64 d0) := hfi
          have hzd : W.drew.frozen? ⟨gF, i, none⟩ = false := H3.ftab i
          have S4 : DStep Y Y w (W.setCell ⟨gF, i, none⟩ (.int .i64 (L : Int))).drew := S3.trans ⟨rfl, rfl, rfl, Nat.le_of_eq (World.size_setCell _ _ _).symm, fun y _ hY => (Below.heap_setCell _ _ _ _ (fun e => hY (by rw [e]; exact H3.yf))), fun y hy => .inl hy⟩
          clear hset hL hd0 hrow hblk hvi H3 S3 hci hfi
          go_upto_region 9 with fail
          go_still_tail 14, (by kernel_rfl)
          change wpList _ _ _ _ _ W.drew
          go_wp2_with fail
          go_roundw
          case rel => exact ⟨i + 1, by simp, hlt, HFS.out.later (Below.refl _ _).drew, S4⟩
          case measure => show 64 - ((i : Int) + 1).toNat < 64 - ((i : Int)).toNat; omega
        · obtain rfl : i = 64 := by omega
          rw [hardF_64] at H3
          go_wp2_with fail
          go_ret
          rw [HA.out]
          exact ⟨rfl, ⟨gB, gF, vs, pl2, H3, HP2.out, harden_ok HK2.out⟩, S3⟩
    · go_wp2_with fail
      go_ret
      rw [HA.out]
      exact ⟨rfl, ⟨gB, gF, vs, pl2, H2, HP2.out, HK2.out⟩, S2⟩
  · rw [ho] at c3
    have hA : D.sync = (19, D) := by unfold Dk.sync; rw [ho, if_pos rfl]
    have HA := Bx.mk hA
    clear hA ho
    go_wp2_with fail
    go_ret
    rw [HA.out]
    exact ⟨rfl, ⟨gB, gF, vs, pl, HM.out, HP.out, HK.out⟩, DStep.refl _ _⟩
end Go.Proofs.Ytmofakcpldbbmaa
