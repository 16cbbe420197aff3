/- Several texts in one: MdD MdE MdF MdG MdH MdI MdJ. -/
import Derived.Test.YtpehnggglolnoaaGreatMdC
import Derived.Deep.RegionWith
import Derived.Deep.Cut
import Derived.Deep.CutRange
/- The model of a disk: Sync, Truncate. -/
namespace Go.Proofs.YtpehnggglolnoaaGreat
open Go.RowKit

def hardF (E : Dk) (i : Nat) : List Int := (List.range 64).map fun (j : Nat) => if j < i then ((E.fs (j : Int)).1.length : Int) else ((E.fs (j : Int)).2 : Int)
theorem hardF_0 (E : Dk) : hardF E 0 = durs E := rfl
theorem hardF_64 (E : Dk) : hardF E 64 = durs E.harden := by
  unfold hardF durs
  refine List.map_congr_left fun j hj => ?_
  rw [if_pos (List.mem_range.1 hj)]
  rfl
theorem hardF_at (E : Dk) {i j : Nat} (hj : j < 64) : (hardF E i)[j]? = some (if j < i then ((E.fs (j : Int)).1.length : Int) else ((E.fs (j : Int)).2 : Int)) := by
  unfold hardF
  rw [List.getElem?_map, List.getElem?_range hj]
  rfl
theorem hardF_set (E : Dk) {i : Nat} (hi : i < 64) : (hardF E i).set i ((E.fs (i : Int)).1.length : Int) = hardF E (i + 1) := by
  apply List.ext_getElem?
  intro j
  rw [List.getElem?_set]
  by_cases hj : j < 64
  · by_cases e : i = j
    · subst e
      rw [if_pos rfl, if_pos (by simp [hardF]; exact hi), hardF_at E hi, if_pos (Nat.lt_succ_self _)]
    · rw [if_neg e, hardF_at E hj, hardF_at E hj]
      by_cases h : j < i
      · rw [if_pos h, if_pos (by omega)]
      · rw [if_neg h, if_neg (by omega)]
  · rw [if_neg (by omega), List.getElem?_eq_none (by simp [hardF]; omega), List.getElem?_eq_none (by simp [hardF]; omega)]
theorem harden_ok {D : Dk} (h : DOk D) : DOk D.harden := by
  refine ⟨fun k hk => ?_, fun k => Nat.le_refl _, h.room, h.used, h.left⟩
  have := h.out k hk
  simp only [Dk.harden, this]
  rfl
/-- The blocks of the model's tables. -/
def T3 (q gB gF : Nat) : Nat → Prop := fun y => y = q ∨ y = gB ∨ y = gF
theorem DStep.up {X Y : Nat → Prop} {w w' : World} (S : DStep X X w w') (h : ∀ b, X b → Y b) : DStep Y Y w w' := ⟨S.os, S.tape, S.output, S.size, fun k hk hY => S.block k hk (fun hx => hY (h k hx)), fun _ h => .inl h⟩
theorem MoX.t3 {w : World} {q gB gF : Nat} {vs : List Value} {pl : Int} {Y : Nat → Prop} {D : Dk} (h : MoX w q gB gF vs pl Y D) : ∀ b, T3 q gB gF b → Y b := fun b hb => by
  rcases hb with rfl | rfl | rfl
  · exact h.1.yq
  · exact h.1.yb
  · exact h.1.yf
set_option maxRecDepth 20000 in
set_option maxHeartbeats 1000000 in
theorem msync_raw (w : World) {q gB gF : Nat} {vs : List Value} {pl : Int} {Y : Nat → Prop} {D : Dk} (h : MoX w q gB gF vs pl Y D) :
    Calls Tryz.prog 28 #[.pointer (some ⟨q, 0, none⟩)] w fun e w' => e = .returned (.int .i64 D.sync.1) ∧ (∃ vs' pl', MoX w' q gB gF vs' pl' Y D.sync.2) ∧ DStep (T3 q gB gF) (T3 q gB gF) w w' := by
  obtain ⟨hm, hp, hok⟩ := h
  have c3 := hm.c3
  have HM := Bx.mk hm
  have HP := Bx.mk hp
  have HK := Bx.mk hok
  have hyq : T3 q gB gF q := .inl rfl
  clear hm hp hok
  go_enter Tryz.func28, Tryz.ntmps28
  cases ho : D.off
  · rw [ho] at c3
    have hA : D.sync = if D.failsB then (19, D.fails) else (0, D.fails.harden) := by unfold Dk.sync; rw [ho, if_neg (by simp)]
    have HA := Bx.mk hA
    have HST := Bx.mk (mstep_any w HM.out HP.out HK.out.left ho)
    clear hA ho
    go_wp2_with fail
    refine HST.out.mono ?_
    rintro e w2 ⟨rfl, ⟨pl2, H2, P2⟩, Q2⟩
    have S2 := Q2.toD hyq
    have hok2 := fails_ok HK.out
    obtain ⟨f1, f2⟩ := fails_fs D
    rw [← f2, show (fun (i : Nat) => (D.fs (i : Int)).1) = fun (i : Nat) => (D.fails.fs (i : Int)).1 by rw [f1], show durs D = durs D.fails by unfold durs; rw [f1]] at H2
    have hA := HA.out
    obtain ⟨fv, hfv⟩ : ∃ v, D.failsB = v := ⟨_, rfl⟩
    rw [hfv] at hA ⊢
    obtain ⟨E, hE⟩ : ∃ E, D.fails = E := ⟨_, rfl⟩
    rw [hE] at H2 P2 hok2 hA
    have HA := Bx.mk hA
    have HP2 := Bx.mk P2
    have HK2 := Bx.mk hok2
    clear HST hA hfv Q2 c3 P2 hok2 f1 f2 hE
    cases fv
    · go_wp2_with fail
      go_loopw [4] (fun u W => ∃ (i : Nat), u = .int .i64 (i : Int) ∧ i ≤ 64 ∧ MoR W q gB gF vs (fun i => (E.fs (i : Int)).1) (hardF E i) E.room E.off pl2 Y ∧ DStep (T3 q gB gF) (T3 q gB gF) w W) (fun u _ => 64 - (match u with | .int _ k => k.toNat | _ => 0))
      case atStart => exact ⟨0, rfl, Nat.zero_le _, H2, S2⟩
      case round =>
        rename World => W
        obtain ⟨i, rfl, hi, H3, S3⟩ := hrel
        by_cases hlt : i < 64
        · have hlti : (i : Int) < 64 := by omega
          obtain ⟨a, c, hvi, hci, hrow, hblk⟩ := H3.at hlt
          have hfi := H3.fat hlt (hardF_at E hlt)
          have hset := hardF_set E hlt
          have HFS := Bx.mk (H3.firm i ((E.fs (i : Int)).1.length : Int))
          obtain ⟨L, hL⟩ : ∃ L, (E.fs (i : Int)).1.length = L := ⟨_, rfl⟩
          rw [hL] at hci hset HFS
          rw [if_neg (Nat.lt_irrefl _)] at hfi
          rw [hset] at HFS
          obtain ⟨d0, hd0⟩ : ∃ d, ((E.fs (i : Int)).2 : Int) = d := ⟨_, rfl⟩
          rw [hd0] at hfi
          have c1d : W.drew.cell? ⟨q, 1, none⟩ = some (.slice (some ⟨gB, 0, none⟩) 64 64) := H3.c1
          have c2d : W.drew.cell? ⟨q, 2, none⟩ = some (.slice (some ⟨gF, 0, none⟩) 64 64) := H3.c2
          have hcid : W.drew.cell? ⟨gB, i, none⟩ = some (.slice a L c) := hci
          have hfid : W.drew.cell? ⟨gF, i, none⟩ = some (.int .i64 d0) := hfi
          have hzd : W.drew.frozen? ⟨gF, i, none⟩ = false := H3.ftab i
          have S4 : DStep (T3 q gB gF) (T3 q gB gF) w (W.setCell ⟨gF, i, none⟩ (.int .i64 (L : Int))).drew := S3.trans ⟨rfl, rfl, rfl, Nat.le_of_eq (World.size_setCell _ _ _).symm, fun y _ hY => (Below.heap_setCell _ _ _ _ (fun e => hY (by rw [e]; exact .inr (.inr rfl)))), fun y hy => .inl hy⟩
          clear hset hL hd0 hrow hblk hvi H3 S3 hci hfi
          go_upto_region 9 with fail
          go_still_tail 14, (by kernel_rfl)
          change wpList _ _ _ _ _ W.drew
          go_wp2_with fail
          go_roundw
          case rel => exact ⟨i + 1, by simp, hlt, HFS.out.later (Below.refl _ _).drew, S4⟩
          case measure => show 64 - ((i : Int) + 1).toNat < 64 - ((i : Int)).toNat; omega
        · obtain rfl : i = 64 := by omega
          rw [hardF_64] at H3
          go_wp2_with fail
          go_ret
          rw [HA.out]
          exact ⟨rfl, ⟨vs, pl2, H3, HP2.out, harden_ok HK2.out⟩, S3⟩
    · go_wp2_with fail
      go_ret
      rw [HA.out]
      exact ⟨rfl, ⟨vs, pl2, H2, HP2.out, HK2.out⟩, S2⟩
  · rw [ho] at c3
    have hA : D.sync = (19, D) := by unfold Dk.sync; rw [ho, if_pos rfl]
    have HA := Bx.mk hA
    clear hA ho
    go_wp2_with fail
    go_ret
    rw [HA.out]
    exact ⟨rfl, ⟨vs, pl, HM.out, HP.out, HK.out⟩, DStep.refl _ _⟩
theorem msync_any (w : World) {q : Nat} {Y : Nat → Prop} {D : Dk} (h : MAt w q Y D) :
    Calls Tryz.prog 28 #[.pointer (some ⟨q, 0, none⟩)] w fun e w' => e = .returned (.int .i64 D.sync.1) ∧ MAt w' q Y D.sync.2 ∧ DStep Y Y w w' := by
  obtain ⟨gB, gF, vs, pl, h⟩ := h
  exact (msync_raw w h).mono fun _ _ ⟨he, ⟨vs', pl', hm⟩, S⟩ => ⟨he, ⟨gB, gF, vs', pl', hm⟩, S.up h.t3⟩
end Go.Proofs.YtpehnggglolnoaaGreat

/- The model of a disk: Truncate, Rot. -/
namespace Go.Proofs.YtpehnggglolnoaaGreat
open Go.RowKit

section
variable {w w' : World} {q gB gF : Nat} {vs : List Value} {bs : Nat → List UInt8} {fm : List Int} {room : Int} {off : Bool} {pl : Int} {Y : Nat → Prop} {D : Dk}
/-- A row is stored, and then how much of it is durable. -/
theorem MoR.put2 (h : MoR w q gB gF vs (fun i => (D.fs (i : Int)).1) (durs D) D.room D.off pl Y) {i : Nat} (hi : i < 64) {v : Value} {b : List UInt8} {d : Nat} (hv : w.ownsRow 0 5 1 v b.length (b.map vB))
    (hvb : ∀ x, v.ownBlock = some x → x ≠ q ∧ x ≠ gB ∧ x ≠ gF ∧ ∀ j u, j ≠ i → vs[j]? = some u → u.ownBlock ≠ some x) (hd : b = [] → d = 0) :
    MoR ((w.setCell ⟨gB, i, none⟩ v).drew.setCell ⟨gF, i, none⟩ (.int .i64 (d : Int))) q gB gF (vs.set i v) (fun j => ((D.put (i : Int) b d).fs (j : Int)).1) (durs (D.put (i : Int) b d)) D.room D.off pl (fun x => Y x ∨ v.ownBlock = some x) := by
  have := ((h.store hi hv hvb).later (Below.refl _ _).drew).firm i (d : Int)
  rw [durs_put D hi b d, show (if b = [] then 0 else d) = d by split <;> first | rfl | exact (hd (by assumption)).symm]
  rw [show (fun (j : Nat) => ((D.put (i : Int) b d).fs (j : Int)).1) = fun j => if j = i then b else (D.fs (j : Int)).1 from funext fun j => by
    by_cases e : j = i
    · subst e; rw [put_fs0, if_pos rfl]
    · rw [put_fs1 D _ _ (show (j : Int) ≠ (i : Int) by omega), if_neg e]]
  exact this
end
set_option maxRecDepth 20000 in
set_option maxHeartbeats 1000000 in
theorem mtrunc_raw (k s : Int) (hs64 : s ≤ 9223372036854775807) (w : World) {q gB gF : Nat} {vs : List Value} {pl : Int} {Y : Nat → Prop} {D : Dk} (h : MoX w q gB gF vs pl Y D) :
    Calls Tryz.prog 27 #[.pointer (some ⟨q, 0, none⟩), .int .i64 k, .int .i64 s] w fun e w' => e = .returned (.int .i64 (D.trunc k s).1) ∧ (∃ vs' pl', MoX w' q gB gF vs' pl' Y (D.trunc k s).2) ∧ DStep (T3 q gB gF) (T3 q gB gF) w w' := by
  obtain ⟨hm, hp, hok⟩ := h
  have c1 := hm.c1
  have c3 := hm.c3
  have HM := Bx.mk hm
  have HP := Bx.mk hp
  have HK := Bx.mk hok
  have hyq : T3 q gB gF q := .inl rfl
  clear hp hok
  go_enter Tryz.func27, Tryz.ntmps27
  have same : ∀ r, D.trunc k s = (r, D) → ∀ r', r' = r → (∃ vs' pl', MoX w q gB gF vs' pl' Y (D.trunc k s).2) ∧ (D.trunc k s).1 = r' := fun r e r' er => by rw [e, er]; exact ⟨⟨vs, pl, HM.out, HP.out, HK.out⟩, rfl⟩
  have SM := Bx.mk same
  clear same
  by_cases hk : 0 ≤ k ∧ k < 64
  · have hk0 : ¬ k < 0 := by omega
    have hk1 : ¬ 63 < k := by omega
    obtain ⟨i, rfl⟩ : ∃ i : Nat, k = (i : Int) := ⟨k.toNat, by omega⟩
    have hi : i < 64 := by omega
    by_cases hs0 : s < 0
    · obtain ⟨h1, h2⟩ := SM.out 1 (by unfold Dk.trunc; rw [if_pos (.inr (.inl hs0))]) 1 rfl
      rw [h2]
      have H1 := Bx.mk h1
      clear h1 h2 hm
      go_wp2_with fail
      go_ret
      exact ⟨rfl, H1.out, DStep.refl _ _⟩
    · obtain ⟨a, c, hvi, hci, hrow, hblk⟩ := hm.at hi
      obtain ⟨sn, rfl⟩ : ∃ sn : Nat, s = (sn : Int) := ⟨s.toNat, by omega⟩
      obtain ⟨x, hx⟩ : ∃ x, (D.fs (i : Int)).1 = x := ⟨_, rfl⟩
      have hlen : x.length ≤ 16777216 := by
        have h1 := D.le_used (i : Int) hk.1 hk.2
        have h2 := HK.out.used
        have h3 := HK.out.room
        rw [hx] at h1
        omega
      have HX := Bx.mk hx
      rw [hx] at hvi hci hrow hblk
      have hnc : x.length ≤ c := by
        obtain ⟨_, _, e, h, _⟩ := (Rv.of_own hrow).opened
        cases e
        exact h
      obtain ⟨n, hn⟩ : ∃ n, x.length = n := ⟨_, rfl⟩
      rw [hn] at hvi hci hrow hblk hlen hnc
      have HN := Bx.mk hn
      have hi' : (i : Int) < 64 := by omega
      clear hx hn
      by_cases hs1 : (n : Int) < (sn : Int)
      · obtain ⟨h1, h2⟩ := SM.out 1 (by unfold Dk.trunc; rw [if_pos (.inr (.inr (by rw [HX.out, HN.out]; exact hs1)))]) 1 rfl
        rw [h2]
        have H1 := Bx.mk h1
        clear h1 h2 hm hrow hblk hvi
        go_wp2_with fail
        go_ret
        exact ⟨rfl, H1.out, DStep.refl _ _⟩
      · have hnot : ¬ (¬ (0 ≤ (i : Int) ∧ (i : Int) < 64) ∨ (sn : Int) < 0 ∨ ((D.fs (i : Int)).1.length : Int) < (sn : Int)) := fun h => h.elim (fun h => h hk) (fun h => h.elim hs0 (fun h => by rw [HX.out, HN.out] at h; exact hs1 h))
        cases ho : D.off
        · rw [ho] at c3
          have hA : D.trunc (i : Int) (sn : Int) = if D.failsB then (19, D.fails) else (0, D.fails.put (i : Int) ((D.fs (i : Int)).1.take sn) (min (D.fs (i : Int)).2 sn)) := by
            unfold Dk.trunc
            rw [if_neg hnot, ho, if_neg (by simp), Int.toNat_natCast]
          have HA := Bx.mk hA
          have HST := Bx.mk (mstep_any w HM.out HP.out HK.out.left ho)
          clear hA ho hm hrow hblk hvi hnot
          go_wp2_with fail
          refine HST.out.mono ?_
          rintro e w2 ⟨rfl, ⟨pl2, H2, P2⟩, Q2⟩
          have S2 := Q2.toD hyq
          have hok2 := fails_ok HK.out
          obtain ⟨f1, f2⟩ := fails_fs D
          rw [← f2, show (fun (i : Nat) => (D.fs (i : Int)).1) = fun (i : Nat) => (D.fails.fs (i : Int)).1 by rw [f1], show durs D = durs D.fails by unfold durs; rw [f1]] at H2
          have hA := HA.out
          rw [← f1] at hA
          have hx := HX.out
          rw [← f1] at hx
          obtain ⟨fv, hfv⟩ : ∃ v, D.failsB = v := ⟨_, rfl⟩
          rw [hfv] at hA ⊢
          obtain ⟨E, hE⟩ : ∃ E, D.fails = E := ⟨_, rfl⟩
          rw [hE] at H2 P2 hok2 hA hx
          have HA := Bx.mk hA
          have HX := Bx.mk hx
          have HP2 := Bx.mk P2
          have HK2 := Bx.mk hok2
          clear HST hA hfv Q2 c3 P2 hok2 f1 f2 hE hx c1 hci
          cases fv
          · obtain ⟨a, c, hvi, hci, hrow, hblk⟩ := H2.at hi
            rw [HX.out, HN.out] at hvi hci hrow hblk
            have hnc : n ≤ c := by
              obtain ⟨_, _, e, h, _⟩ := (Rv.of_own hrow).opened
              cases e
              exact h
            obtain ⟨d, hd⟩ : ∃ d, (E.fs (i : Int)).2 = d := ⟨_, rfl⟩
            have hdn := HK2.out.dur (i : Int)
            rw [HX.out, HN.out, hd] at hdn
            have hfi := H2.fat hi (durs_at E hi)
            rw [hd] at hfi
            have htl : (x.take sn).length = sn := by rw [List.length_take, HN.out]; omega
            have hcut := own_cut hrow sn (by omega)
            rw [← List.map_take] at hcut
            have hb2 : ∀ y, (Value.slice a sn c).ownBlock = some y → (Value.slice a n c).ownBlock = some y := fun y hy => by
              cases a with
              | none => cases hy
              | some p => exact hy
            have HPUT := Bx.mk (H2.put2 hi (v := .slice a sn c) (b := x.take sn) (d := min d sn) (by rw [htl]; exact hcut)
              (fun y hy => ⟨(hblk y (hb2 y hy)).2.1, (hblk y (hb2 y hy)).2.2.1, (hblk y (hb2 y hy)).2.2.2, fun j u hj hu e => H2.sep j i u _ y hj hu hvi e (hb2 y hy)⟩) (fun e => by
                rw [e] at htl
                have : sn = 0 := htl.symm
                omega))
            have HY := Bx.mk (show ∀ y, (Y y ∨ (Value.slice a sn c).ownBlock = some y) ↔ Y y from fun y => ⟨fun h => h.elim id (fun h => (hblk y (hb2 y h)).1), .inl⟩)
            have hA := HA.out
            rw [HX.out, hd] at hA
            have HA := Bx.mk hA
            have hroom : ((E.put (i : Int) (x.take sn) (min d sn)).used : Int) ≤ E.room := by
              have h1 := E.used_put (i : Int) (x.take sn) (min d sn) hk.1 hk.2
              rw [HX.out, HN.out, htl] at h1
              have h2 := HK2.out.used
              omega
            have HOK := Bx.mk (put_ok HK2.out hk (b := x.take sn) (d := min d sn) (by rw [htl]; omega) hroom)
            have c1d : w2.drew.cell? ⟨q, 1, none⟩ = some (.slice (some ⟨gB, 0, none⟩) 64 64) := H2.c1
            have hcid : w2.drew.cell? ⟨gB, i, none⟩ = some (.slice a n c) := hci
            have hzd : w2.drew.frozen? ⟨gB, i, none⟩ = false := H2.tab i
            have hbf := H2.bf
            have hqf := H2.qf
            have hqb := H2.qb
            have hw3 : ∀ y, y ≠ gB → (w2.setCell ⟨gB, i, none⟩ (.slice a sn c)).drew.heap[y]? = w2.heap[y]? := fun y hy => Below.heap_setCell _ _ _ _ hy
            have cell3 : ∀ y j, y ≠ gB → (w2.setCell ⟨gB, i, none⟩ (.slice a sn c)).drew.cell? ⟨y, j, none⟩ = w2.cell? ⟨y, j, none⟩ := fun y j hy => World.cell?_of_block (hw3 y hy)
            have c2 := (cell3 q 2 hqb).trans H2.c2
            have c2d : (w2.setCell ⟨gB, i, none⟩ (.slice a sn c)).drew.drew.cell? ⟨q, 2, none⟩ = some (.slice (some ⟨gF, 0, none⟩) 64 64) := c2
            have hf3 := (cell3 gF i (fun e => hbf e.symm)).trans hfi
            have hf3d : (w2.setCell ⟨gB, i, none⟩ (.slice a sn c)).drew.drew.cell? ⟨gF, i, none⟩ = some (.int .i64 (d : Int)) := hf3
            have hz3 : (w2.setCell ⟨gB, i, none⟩ (.slice a sn c)).drew.drew.frozen? ⟨gF, i, none⟩ = false := (World.frozen?_of_block (hw3 gF (fun e => hbf e.symm))).trans (H2.ftab i)
            have S3 : DStep (T3 q gB gF) (T3 q gB gF) w ((w2.setCell ⟨gB, i, none⟩ (.slice a sn c)).drew.setCell ⟨gF, i, none⟩ (.int .i64 ((min d sn : Nat) : Int))) := S2.trans ⟨rfl, rfl, rfl, by rw [World.size_setCell]; exact Nat.le_of_eq (World.size_setCell _ _ _).symm, fun y _ hY => (Below.heap_setCell _ _ _ _ (fun e => hY (by rw [e]; exact .inr (.inr rfl)))).trans (hw3 y (fun e => hY (by rw [e]; exact .inr (.inl rfl)))), fun y hy => .inl hy⟩
            have HS3 := Bx.mk S3
            have hsni : (sn : Int) ≤ (n : Int) := by omega
            have hsci : (sn : Int) ≤ (c : Int) := by omega
            have hmin : (min (d : Int) (sn : Int)) = ((min d sn : Nat) : Int) := by omega
            clear hcut hrow hblk hvi hci hfi hA cell3 hw3 hbf hqf hqb c2 hf3 H2 S2 hroom htl hb2 S3
            have HMIN := Bx.mk hmin
            clear hmin
            go_upto_region 8 with fail
            go_still_tail 15, (by kernel_rfl)
            change wpList _ _ _ _ _ w2.drew
            go_upto_region 9 with fail
            generalize (w2.setCell ⟨gB, i, none⟩ (.slice a sn c)).drew = w3 at c2d hf3d hz3 HPUT HS3 ⊢
            go_still_tail 15, (by kernel_rfl)
            change wpList _ _ _ _ _ w3.drew
            go_wp2_with fail
            rw [HMIN.out]
            go_ret
            rw [HA.out]
            exact ⟨rfl, ⟨_, pl2, (HPUT.out.sameY HY.out).later (Below.refl _ _).drew, HP2.out, HOK.out⟩, HS3.out.trans (DStep.ofBelow _ (Below.refl _ _).drew)⟩
          · go_wp2_with fail
            go_ret
            rw [HA.out]
            exact ⟨rfl, ⟨vs, pl2, H2, HP2.out, HK2.out⟩, S2⟩
        · rw [ho] at c3
          obtain ⟨h1, h2⟩ := SM.out 19 (by unfold Dk.trunc; rw [if_neg hnot, ho, if_pos rfl]) 19 rfl
          rw [h2]
          have H1 := Bx.mk h1
          clear h1 h2 hm hrow hblk hvi ho hnot
          go_wp2_with fail
          go_ret
          exact ⟨rfl, H1.out, DStep.refl _ _⟩
  · obtain ⟨h1, h2⟩ := SM.out 1 (by unfold Dk.trunc; rw [if_pos (.inl hk)]) 1 rfl
    rw [h2]
    have H1 := Bx.mk h1
    clear h1 h2 hm
    by_cases hk0 : k < 0
    · go_wp2_with fail
      go_ret
      exact ⟨rfl, H1.out, DStep.refl _ _⟩
    · have hk1 : 63 < k := by omega
      go_wp2_with fail
      go_ret
      exact ⟨rfl, H1.out, DStep.refl _ _⟩
theorem mtrunc_any (k s : Int) (hs64 : s ≤ 9223372036854775807) (w : World) {q : Nat} {Y : Nat → Prop} {D : Dk} (h : MAt w q Y D) :
    Calls Tryz.prog 27 #[.pointer (some ⟨q, 0, none⟩), .int .i64 k, .int .i64 s] w fun e w' => e = .returned (.int .i64 (D.trunc k s).1) ∧ MAt w' q Y (D.trunc k s).2 ∧ DStep Y Y w w' := by
  obtain ⟨gB, gF, vs, pl, h⟩ := h
  exact (mtrunc_raw k s hs64 w h).mono fun _ _ ⟨he, ⟨vs', pl', hm⟩, S⟩ => ⟨he, ⟨gB, gF, vs', pl', hm⟩, S.up h.t3⟩
end Go.Proofs.YtpehnggglolnoaaGreat

/- The model of a disk: Rot. -/
namespace Go.Proofs.YtpehnggglolnoaaGreat
open Go.RowKit

theorem maskI2 (x : UInt8) (r : Nat) (h : r < 8) : bits BinOp.xor IntKind.u8 (x.toNat : Int) (2 ^ (7 - r) % 256) = ((x ^^^ maskB r).toNat : Int) := by
  rw [← maskI x r h]
  congr 1
  have h8 : r = 0 ∨ r = 1 ∨ r = 2 ∨ r = 3 ∨ r = 4 ∨ r = 5 ∨ r = 6 ∨ r = 7 := by omega
  rcases h8 with h | h | h | h | h | h | h | h <;> subst h <;> decide
end Go.Proofs.YtpehnggglolnoaaGreat

/- The model of a disk: New, Files. -/
namespace Go.Proofs.YtpehnggglolnoaaGreat
open Go.RowKit

theorem newD_u (r : Int) : (newD r).used = 0 := by
  show sumL (fun _ => 0) 64 = 0
  decide
theorem newD_okD (r : Int) (h0 : 0 ≤ r) (h1 : r ≤ 16777216) : DOk (newD r) :=
  ⟨fun _ _ => rfl, fun _ => Nat.le_refl _, ⟨h0, h1⟩, by rw [newD_u]; exact h0, Nat.zero_le _⟩
theorem mnew_at {w : World} {q gB gF : Nat} {room : Int} (h0 : 0 ≤ room) (h1 : room ≤ 16777216) (hq : w.heap[q]? = some (moO room gB gF false (-1))) (hB : w.heap[gB]? = some (.cells (madeCells #[.slice none 0 0] 64) 39 (0, 0))) (hF : w.heap[gF]? = some (.cells (madeCells #[.int .i64 0] 64) 3 (0, 0)))
    (h2 : q ≠ gB) (h3 : q ≠ gF) (h4 : gB ≠ gF) : MoX w q gB gF (List.replicate 64 (.slice none 0 0)) (-1) (fun b => b = q ∨ b = gB ∨ b = gF) (newD room) := by
  have l1 := (Array.getElem?_eq_some_iff.1 hq).1
  have l2 := (Array.getElem?_eq_some_iff.1 hB).1
  have l3 := (Array.getElem?_eq_some_iff.1 hF).1
  have hn : ∀ (i : Nat) (v : Value), (List.replicate 64 (Value.slice none 0 0))[i]? = some v → v = .slice none 0 0 := fun i v hv => by
    rw [List.getElem?_replicate] at hv
    split at hv
    · exact (Option.some.inj hv).symm
    · cases hv
  refine ⟨⟨hq, ⟨by decide, .inr ⟨gB, 64, _, rfl, Nat.zero_le _, hB, Nat.le_refl _, by unfold maxLen; omega, size_madeCells _ _, by kernel_rfl⟩⟩, ⟨by kernel_rfl, .inr ⟨gF, 64, _, rfl, Nat.zero_le _, hF, Nat.le_refl _, by unfold maxLen; omega, size_madeCells _ _, by kernel_rfl⟩⟩, h2, h3, h4, .inl rfl, .inr (.inl rfl), .inr (.inr rfl), fun i v hv => ?_, fun i j u v b _ hu hv hb => ?_, fun b hb => ?_⟩, ⟨(fun h => by cases h), fun _ => by omega⟩, newD_okD room h0 h1⟩
  · rw [hn i v hv]
    exact ⟨World.ownsRow_nil _ _ _ _, (fun b hb => by cases hb)⟩
  · rw [hn i u hu] at hb
    cases hb
  · rcases hb with rfl | rfl | rfl <;> assumption
theorem alloc2_at (w : World) (o o2 : Obj) : ((w.alloc o).alloc o2).heap[w.heap.size + 1]? = some o2 := by
  have := World.alloc_heap_new (w.alloc o) o2
  rw [World.size_alloc] at this
  exact this
set_option maxRecDepth 20000 in
set_option maxHeartbeats 1000000 in
theorem mnew_raw (room : Int) (h0 : 0 ≤ room) (h1 : room ≤ 16777216) (w : World) : Calls Tryz.prog 6 #[.int .i64 room] w fun e w' => ∃ q gB gF Y, e = .returned (.pointer (some ⟨q, 0, none⟩)) ∧ MoX w' q gB gF (List.replicate 64 (.slice none 0 0)) (-1) Y (newD room) ∧ (∀ b, Y b → w.heap.size ≤ b) ∧ Below w.heap.size w w' := by
  obtain ⟨iS, hiS, hzS, hsS, hbS⟩ := info_parts Tryz.infoSb
  obtain ⟨iI, hiI, hzI, hsI, hbI⟩ := info_parts Tryz.infoI
  have hmkB := fun W : World => run_make (P := Tryz.prog) W 29 39 iS _ Tryz.underlying29 hiS hzS .i64 .i64 64 64 (by omega) (by omega) (by rw [hbS]; omega) (by omega)
  have hmkF := fun W : World => run_make (P := Tryz.prog) W 22 3 iI _ Tryz.underlying22 hiI hzI .i64 .i64 64 64 (by omega) (by omega) (by rw [hbI]; omega) (by omega)
  rw [hsS] at hmkB
  rw [hsI] at hmkF
  have e64 : (64 : Int).toNat = 64 := rfl
  simp only [e64, Nat.mul_one] at hmkB hmkF
  clear e64
  clear hiS hzS hsS hbS hiI hzI hsI hbI
  go_enter Tryz.func6, Tryz.ntmps6
  go_wp2_with fail
  go_region_with (fail)
  · go_wp2_with fail
    go_ret
    have hB := (Below.heap_alloc ((w.drew.alloc (.cells (madeCells #[.slice none 0 0] 64) 39)).alloc (.cells (madeCells #[.int .i64 0] 64) 3)) (moO room w.heap.size (w.heap.size + 1) false (-1)) w.heap.size (by simp; omega)).trans ((Below.heap_alloc (w.drew.alloc (.cells (madeCells #[.slice none 0 0] 64) 39)) (.cells (madeCells #[.int .i64 0] 64) 3) w.heap.size (by simp)).trans (World.alloc_heap_new w.drew _))
    have hF := (Below.heap_alloc ((w.drew.alloc (.cells (madeCells #[.slice none 0 0] 64) 39)).alloc (.cells (madeCells #[.int .i64 0] 64) 3)) (moO room w.heap.size (w.heap.size + 1) false (-1)) (w.heap.size + 1) (by simp)).trans (alloc2_at w.drew _ _)
    have hq := World.alloc_heap_new ((w.drew.alloc (.cells (madeCells #[.slice none 0 0] 64) 39)).alloc (.cells (madeCells #[.int .i64 0] 64) 3)) (moO room w.heap.size (w.heap.size + 1) false (-1))
    rw [World.size_alloc, World.size_alloc] at hq
    exact ⟨_, _, _, _, rfl, mnew_at h0 h1 hq hB hF (by show w.heap.size + 1 + 1 ≠ w.heap.size; omega) (by show w.heap.size + 1 + 1 ≠ w.heap.size + 1; omega) (by omega), (fun b hb => by
      have e : w.drew.heap.size = w.heap.size := rfl
      rcases hb with rfl | rfl | rfl <;> omega), (((Below.refl _ w).drew.alloc (Nat.le_refl _) _).alloc (by simp) _).alloc (by simp; omega) _⟩
  · go_wp2_with fail
    go_ret
    have hF := (Below.heap_alloc ((w.drew.alloc (.cells (madeCells #[.int .i64 0] 64) 3)).alloc (.cells (madeCells #[.slice none 0 0] 64) 39)) (moO room (w.heap.size + 1) w.heap.size false (-1)) w.heap.size (by simp; omega)).trans ((Below.heap_alloc (w.drew.alloc (.cells (madeCells #[.int .i64 0] 64) 3)) (.cells (madeCells #[.slice none 0 0] 64) 39) w.heap.size (by simp)).trans (World.alloc_heap_new w.drew _))
    have hB := (Below.heap_alloc ((w.drew.alloc (.cells (madeCells #[.int .i64 0] 64) 3)).alloc (.cells (madeCells #[.slice none 0 0] 64) 39)) (moO room (w.heap.size + 1) w.heap.size false (-1)) (w.heap.size + 1) (by simp)).trans (alloc2_at w.drew _ _)
    have hq := World.alloc_heap_new ((w.drew.alloc (.cells (madeCells #[.int .i64 0] 64) 3)).alloc (.cells (madeCells #[.slice none 0 0] 64) 39)) (moO room (w.heap.size + 1) w.heap.size false (-1))
    rw [World.size_alloc, World.size_alloc] at hq
    exact ⟨_, _, _, _, rfl, mnew_at h0 h1 hq hB hF (by show w.heap.size + 1 + 1 ≠ w.heap.size + 1; omega) (by show w.heap.size + 1 + 1 ≠ w.heap.size; omega) (by omega), (fun b hb => by
      have e : w.drew.heap.size = w.heap.size := rfl
      rcases hb with rfl | rfl | rfl <;> omega), (((Below.refl _ w).drew.alloc (Nat.le_refl _) _).alloc (by simp) _).alloc (by simp; omega) _⟩
theorem mnew_any (room : Int) (h0 : 0 ≤ room) (h1 : room ≤ 16777216) (w : World) : Calls Tryz.prog 6 #[.int .i64 room] w fun e w' => ∃ q Y, e = .returned (.pointer (some ⟨q, 0, none⟩)) ∧ MAt w' q Y (newD room) ∧ (∀ b, Y b → w.heap.size ≤ b) ∧ Below w.heap.size w w' :=
  (mnew_raw room h0 h1 w).mono fun _ _ ⟨q, gB, gF, Y, he, hM, hY, hB⟩ => ⟨q, Y, he, ⟨gB, gF, _, _, hM⟩, hY, hB⟩
section
variable {q gB gF : Nat} {D : Dk} {vs : List Value} {fm : List Int} {room : Int} {off : Bool} {pl : Int} {Y : Nat → Prop}
def filesN (D : Dk) (n : Nat) : List Int := ((List.range n).filter fun (i : Nat) => !(D.fs (i : Int)).1.isEmpty).map fun (i : Nat) => (i : Int)
theorem filesN_succ (D : Dk) (n : Nat) : filesN D (n + 1) = if (D.fs (n : Int)).1 = [] then filesN D n else filesN D n ++ [(n : Int)] := by
  unfold filesN
  rw [List.range_succ, List.filter_append, List.map_append]
  by_cases h : (D.fs (n : Int)).1 = []
  · rw [if_pos h]
    simp [h]
  · rw [if_neg h]
    have : (D.fs (n : Int)).1.isEmpty = false := by simpa using h
    simp [this]
theorem filesN_len (D : Dk) (n : Nat) : (filesN D n).length ≤ n := by
  unfold filesN
  rw [List.length_map]
  exact Nat.le_trans (List.length_filter_le _ _) (by simp)
set_option maxRecDepth 20000 in
set_option maxHeartbeats 1000000 in
theorem mfiles_any (w : World) (h : MoR w q gB gF vs (fun i => (D.fs (i : Int)).1) fm room off pl Y) :
    Calls Tryz.prog 33 #[.pointer (some ⟨q, 0, none⟩)] w (RetMade w 3 (D.files.map (Value.int .i64))) := by
  have HM := Bx.mk h
  go_enter Tryz.func33, Tryz.ntmps33
  go_wp2_with fail
  go_loopw [3, 4] (fun u v W => ∃ (i : Nat) (done : List Int), v = .int .i64 (i : Int) ∧ i ≤ 64 ∧ done.length ≤ i ∧ Bx (filesN D i = done) ∧ W.ownsRow w.heap.size 3 1 u done.length (done.map (Value.int .i64)) ∧ Below w.heap.size w W) (fun _ v _ => 64 - (match v with | .int _ k => k.toNat | _ => 0))
  case atStart => exact ⟨0, [], rfl, Nat.zero_le _, Nat.le_refl _, ⟨rfl⟩, World.ownsRow_nil _ _ _ _, Below.refl _ _⟩
  case round =>
    rename World => W
    obtain ⟨i, done, rfl, hi, hdl, HD, O, B⟩ := hrel
    have H := HM.out.later B
    have c1 := H.c1
    by_cases hlt : i < 64
    · have hlti : (i : Int) < 64 := by omega
      obtain ⟨a, c, _, hci, _, _⟩ := H.at hlt
      have hsucc := filesN_succ D i
      rw [HD.out] at hsucc
      obtain ⟨x, hx⟩ : ∃ x, (D.fs (i : Int)).1 = x := ⟨_, rfl⟩
      rw [hx] at hci hsucc
      obtain ⟨n, hn⟩ : ∃ n, x.length = n := ⟨_, rfl⟩
      rw [hn] at hci
      obtain ⟨ad, cd, rfl⟩ := own_isSlice O
      by_cases h0 : n = 0
      · have hx0 : x = [] := List.eq_nil_of_length_eq_zero (by omega)
        rw [if_pos hx0] at hsucc
        have HS := Bx.mk hsucc
        subst h0
        clear hx hn hsucc hx0 H
        go_wp2_with fail
        go_roundw
        case rel => exact ⟨i + 1, done, by simp, hlt, by omega, HS, O, B⟩
        case measure => show 64 - ((i : Int) + 1).toNat < 64 - ((i : Int)).toNat; omega
      · have hx0 : x ≠ [] := fun e => h0 (by rw [← hn, e]; rfl)
        rw [if_neg hx0] at hsucc
        have HS := Bx.mk hsucc
        have hn0 : (0 : Int) < (n : Int) := by omega
        clear hx hn hsucc hx0 H
        go_wp2_with (at_builtin; go_loud (refine wpList_app2 _ rfl _ _ rfl Tryz.elI w.heap.size _ done.length _ rfl (O.alloc _) _ 1 [.int .i64 (i : Int)] rfl (Rv.one _ _ _) rfl (ones1 _ rfl) (by omega) (by have := B.size; simp; omega) ?_; intro v5 w5 O5 g5 s5; refine later ?_))
        refine Later.in ?_
        have B5 : Below w.heap.size w w5 := (B.alloc B.size _).grown g5 (by have := B.size; simp; omega) (fun g hg => (O.lt g hg).1)
        have O5 : w5.ownsRow w.heap.size 3 1 v5 (done ++ [(i : Int)]).length ((done ++ [(i : Int)]).map (Value.int .i64)) := by rw [List.length_append, List.map_append]; exact O5
        have hdl5 : (done ++ [(i : Int)]).length ≤ i + 1 := by simp; omega
        obtain ⟨d5, hd5⟩ : ∃ d, done ++ [(i : Int)] = d := ⟨_, rfl⟩
        rw [hd5] at O5 HS hdl5
        clear hd5 g5 s5
        obtain ⟨a5, c5, rfl⟩ := own_isSlice O5
        go_wp2_with fail
        go_roundw
        case rel => exact ⟨i + 1, d5, by simp, hlt, hdl5, HS, O5, B5⟩
        case measure => show 64 - ((i : Int) + 1).toNat < 64 - ((i : Int)).toNat; omega
    · obtain rfl : i = 64 := by omega
      clear H
      go_wp2_with fail
      go_ret
      have e : D.files = done := HD.out
      rw [e]
      exact retMade O rfl B
end
end Go.Proofs.YtpehnggglolnoaaGreat

/- The model of a disk: Copy. -/
namespace Go.Proofs.YtpehnggglolnoaaGreat
open Go.RowKit

def copyF (D : Dk) (i : Nat) : List Int := (List.range 64).map fun (j : Nat) => if j < i then ((D.fs (j : Int)).2 : Int) else 0
theorem copyF_at (E : Dk) {i j : Nat} (hj : j < 64) : (copyF E i)[j]? = some (if j < i then ((E.fs (j : Int)).2 : Int) else 0) := by
  unfold copyF
  rw [List.getElem?_map, List.getElem?_range hj]
  rfl
theorem copyF_64 (E : Dk) : copyF E 64 = durs E := by
  unfold copyF durs
  refine List.map_congr_left fun j hj => ?_
  rw [if_pos (List.mem_range.1 hj)]
theorem copyF_0 (r : Int) (E : Dk) : durs (newD r) = copyF E 0 := by
  unfold copyF durs
  refine List.map_congr_left fun j hj => ?_
  rw [if_neg (by omega)]
  rfl
theorem copyF_set (E : Dk) {i : Nat} (hi : i < 64) : (copyF E i).set i ((E.fs (i : Int)).2 : Int) = copyF E (i + 1) := by
  apply List.ext_getElem?
  intro j
  rw [List.getElem?_set]
  by_cases hj : j < 64
  · by_cases e : i = j
    · subst e
      rw [if_pos rfl, if_pos (by simp [copyF]; exact hi), copyF_at E hi, if_pos (Nat.lt_succ_self _)]
    · rw [if_neg e, copyF_at E hj, copyF_at E hj]
      by_cases h : j < i
      · rw [if_pos h, if_pos (by omega)]
      · rw [if_neg h, if_neg (by omega)]
  · rw [if_neg (by omega), List.getElem?_eq_none (by simp [copyF]; omega), List.getElem?_eq_none (by simp [copyF]; omega)]
def copyB (D : Dk) (i : Nat) (j : Nat) : List UInt8 := if j < i then (D.fs (j : Int)).1 else []
theorem copyB_set (D : Dk) (i : Nat) : (fun j => if j = i then (D.fs (i : Int)).1 else copyB D i j) = copyB D (i + 1) := by
  funext j
  unfold copyB
  by_cases e : j = i
  · subst e; rw [if_pos rfl, if_pos (Nat.lt_succ_self _)]
  · rw [if_neg e]
    by_cases h : j < i
    · rw [if_pos h, if_pos (by omega)]
    · rw [if_neg h, if_neg (by omega)]
section
variable {w w' : World} {q gB gF : Nat} {vs : List Value} {bs bs' : Nat → List UInt8} {fm : List Int} {room : Int} {off : Bool} {pl : Int} {Y : Nat → Prop}
theorem MoR.bsEq (h : MoR w q gB gF vs bs fm room off pl Y) (e : ∀ i, i < 64 → bs i = bs' i) : MoR w q gB gF vs bs' fm room off pl Y :=
  ⟨h.blk, h.ob, h.of, h.qb, h.qf, h.bf, h.yq, h.yb, h.yf, fun i v hv => by
    have hi : i < 64 := by have := (List.getElem?_eq_some_iff.1 hv).1; rw [h.vl] at this; exact this
    rw [← e i hi]; exact h.row i v hv, h.sep, h.yl⟩
end
end Go.Proofs.YtpehnggglolnoaaGreat

/- The model of a disk: Crash. -/
namespace Go.Proofs.YtpehnggglolnoaaGreat
open Go.RowKit

section
variable {w w' : World} {q gB gF : Nat} {vs : List Value} {bs : Nat → List UInt8} {fm : List Int} {room : Int} {off : Bool} {pl : Int} {Y : Nat → Prop}
/-- A row turned where it lies. -/
theorem MoR.rerow (h : MoR w q gB gF vs bs fm room off pl Y) {i g n c : Nat} (hv : vs[i]? = some (.slice (some ⟨g, 0, none⟩) n c)) {b : List UInt8} (hlen : b.length = n) (ho : w'.ownsRow 0 5 1 (.slice (some ⟨g, 0, none⟩) n c) n (b.map vB))
    (hs : w.heap.size ≤ w'.heap.size) (hg : ∀ x, x < w.heap.size → x ≠ g → w'.heap[x]? = w.heap[x]?) : MoR w' q gB gF vs (fun j => if j = i then b else bs j) fm room off pl Y := by
  obtain ⟨h1, h2⟩ := h.row i _ hv
  obtain ⟨e1, e2, e3, e4⟩ := h2 g rfl
  have hx := fun y (hy : Y y) (hyg : y ≠ g) => hg y (h.yl y hy) hyg
  refine ⟨(hx q h.yq (fun e => e2 e.symm)).trans h.blk, own_same h.ob (fun y e => by cases e; exact hx _ h.yb (fun e => e3 e.symm)), own_same h.of (fun y e => by cases e; exact hx _ h.yf (fun e => e4 e.symm)), h.qb, h.qf, h.bf, h.yq, h.yb, h.yf, fun j u hu => ?_, h.sep, fun y hy => Nat.lt_of_lt_of_le (h.yl y hy) hs⟩
  by_cases e : j = i
  · subst e
    rw [hv] at hu
    cases hu
    simp only [if_true]
    rw [hlen]
    exact ⟨ho, h2⟩
  · simp only [if_neg e]
    obtain ⟨h3, h4⟩ := h.row j u hu
    exact ⟨own_same h3 (fun y hy => hx y (h4 y hy).1 (fun e5 => h.sep j i u _ g e hu hv (by rw [← e5]; exact hy) rfl)), h4⟩
end
/-! what becomes of a disk, plainly -/
theorem invertL_skip (D : Dk) (p : Int → Bool) : ∀ (l : List Int) (n : Nat), (∀ k ∈ l, p k = false → (D.fs k).1.length = (D.fs k).2) → D.invertL (l.filter p) n = D.invertL l n
  | [], _, _ => rfl
  | k :: l, n, h => by
    have ih := fun n => invertL_skip D p l n (fun j hj => h j (by simp [hj]))
    rw [List.filter_cons]
    cases hp : p k
    · have := h k (by simp) hp
      rw [if_neg (by simp), ih n]
      conv => rhs; rw [Dk.invertL]
      rw [this, Nat.sub_self, Nat.mul_zero, if_neg (by omega), Nat.sub_zero]
    · rw [if_pos rfl, Dk.invertL, Dk.invertL, ih]
theorem cutI_some (D : Dk) (keep fl : List Int) (k : Int) : ∀ i, ((D.cutI keep fl i).1.fs k).1 ≠ [] → (D.fs k).1 ≠ []
  | 0, h => h
  | i + 1, h => by
    refine cutI_some D keep fl k i ?_
    intro e
    apply h
    show ((Dk.put _ _ _ _).fs k).1 = []
    simp only [Dk.put]
    split
    · rename_i hk
      rw [← hk, e, List.take_nil]
    · exact e
theorem cut_files (D : Dk) (keep fl : List Int) (i : Nat) : (D.cutI keep fl i).1.files = D.files.filter fun k => !((D.cutI keep fl i).1.fs k).1.isEmpty := by
  unfold Dk.files
  rw [List.filter_map, List.filter_filter]
  congr 1
  refine List.filter_congr fun j _ => ?_
  simp only [Function.comp_apply]
  cases h : ((D.cutI keep fl i).1.fs (j : Int)).1.isEmpty
  · have h2 := cutI_some D keep fl (j : Int) i (by simpa using h)
    have h3 : (D.fs (j : Int)).1.isEmpty = false := by simpa using h2
    rw [h3]
    rfl
  · rfl
theorem cut_ok {D : Dk} (h : DOk D) (keep fl : List Int) : ∀ i, i ≤ fl.length → (∀ k ∈ fl, 0 ≤ k ∧ k < 64) → DOk (D.cutI keep fl i).1
  | 0, _, _ => h
  | i + 1, hi, hm => by
    have ih := cut_ok h keep fl i (by omega) hm
    have hk : fl[i]? = some (fl[i]'(by omega)) := List.getElem?_eq_getElem (by omega)
    have hb := hm _ (List.getElem_mem (l := fl) (n := i) (by omega))
    show DOk (Dk.put _ (fl[i]?.getD 0) _ _)
    rw [hk, Option.getD_some]
    generalize fl[i]'(by omega) = k at hb ⊢
    have hd := ih.dur k
    have hkn := keptN_le keep i (((D.cutI keep fl i).1.fs k).1.length - ((D.cutI keep fl i).1.fs k).2)
    refine put_ok ih hb (by rw [List.length_take]; omega) ?_
    have hu := (D.cutI keep fl i).1.used_put k (((D.cutI keep fl i).1.fs k).1.take (((D.cutI keep fl i).1.fs k).2 + keptN keep i (((D.cutI keep fl i).1.fs k).1.length - ((D.cutI keep fl i).1.fs k).2))) ((D.cutI keep fl i).1.fs k).2 hb.1 hb.2
    rw [List.length_take] at hu
    have := ih.used
    omega
/-- Where the bit stands that is to be inverted. -/
def Ph (R E : Dk) (l : List Int) (at' : Int) : Prop := (0 ≤ at' ∧ E.invertL l at'.toNat = R) ∨ (at' < 0 ∧ E = R)
def Ph2 (R E : Dk) (rest : List Int) (f : Int) (d kk : Nat) (at' : Int) : Prop := (0 ≤ at' ∧ ∃ m : Nat, at' = (m : Int) - 8 * ((kk - d : Nat) : Int) ∧ E.invertL (f :: rest) m = R) ∨ (at' < 0 ∧ E = R)
theorem Ph.start {R E : Dk} {f : Int} {rest : List Int} {at' : Int} (h : Ph R E (f :: rest) at') (d : Nat) : Ph2 R E rest f d d at' := by
  rcases h with ⟨h0, h1⟩ | h
  · exact .inl ⟨h0, at'.toNat, by omega, h1⟩
  · exact .inr h
theorem Ph2.end' {R E : Dk} {f : Int} {rest : List Int} {at' : Int} {d L : Nat} (h : Ph2 R E rest f d L at') (hl : (E.fs f).1.length = L) (hd : (E.fs f).2 = d) : Ph R E rest at' := by
  rcases h with ⟨h0, m, h1, h2⟩ | h
  · rw [Dk.invertL, hl, hd, if_neg (by omega)] at h2
    refine .inl ⟨h0, ?_⟩
    rw [show at'.toNat = m - 8 * (L - d) by omega]
    exact h2
  · exact .inr h
theorem Ph2.next {R E : Dk} {f : Int} {rest : List Int} {at' : Int} {d kk : Nat} (h : Ph2 R E rest f d kk at') (hk : d ≤ kk) (hn : ¬ (0 ≤ at' ∧ at' < 8)) : Ph2 R E rest f d (kk + 1) (at' - 8) := by
  rcases h with ⟨h0, m, h1, h2⟩ | h
  · exact .inl ⟨by omega, m, by omega, h2⟩
  · exact .inr ⟨by omega, h.2⟩
theorem Ph2.flip {R E : Dk} {f : Int} {rest : List Int} {d kk r : Nat} (h : Ph2 R E rest f d kk (r : Int)) (hr : r < 8) (hk : d ≤ kk) (hkL : kk < (E.fs f).1.length) (hd : (E.fs f).2 = d) : E.put f (flipB (E.fs f).1 (8 * kk + r)) d = R := by
  rcases h with ⟨h0, m, h1, h2⟩ | h
  · rw [Dk.invertL, hd, if_pos (by omega)] at h2
    rw [show 8 * kk + r = 8 * d + m by omega]
    exact h2
  · omega
end Go.Proofs.YtpehnggglolnoaaGreat

/- The model of a disk: Crash, the walk. -/
namespace Go.Proofs.YtpehnggglolnoaaGreat
open Go.RowKit

theorem flip_ok {E : Dk} (h : DOk E) {f : Int} (hf : 0 ≤ f ∧ f < 64) (n : Nat) : DOk (E.put f (flipB (E.fs f).1 n) (E.fs f).2) := by
  have hl := flipB_len (E.fs f).1 n
  refine put_ok h hf (by rw [hl]; exact h.dur f) ?_
  have hu := E.used_put f (flipB (E.fs f).1 n) (E.fs f).2 hf.1 hf.2
  rw [hl] at hu
  have := h.used
  omega
theorem flip_len {E : Dk} {f : Int} (n : Nat) : ((E.put f (flipB (E.fs f).1 n) (E.fs f).2).fs f).1.length = (E.fs f).1.length := by rw [put_fs0, flipB_len]
theorem flip_dur {E : Dk} (h : DOk E) {f : Int} (n : Nat) : ((E.put f (flipB (E.fs f).1 n) (E.fs f).2).fs f).2 = (E.fs f).2 := by
  rw [put_fs0]
  show (if flipB (E.fs f).1 n = [] then 0 else (E.fs f).2) = _
  split
  · rename_i e
    have := h.dur f
    have hl := flipB_len (E.fs f).1 n
    rw [e, List.length_nil] at hl
    omega
  · rfl
theorem durs_flip {E : Dk} (h : DOk E) {i : Nat} (hi : i < 64) (n : Nat) : durs (E.put (i : Int) (flipB (E.fs (i : Int)).1 n) (E.fs (i : Int)).2) = durs E := by
  refine durs_same E hi _ (fun e => ?_)
  have := h.dur (i : Int)
  have hl := flipB_len (E.fs (i : Int)).1 n
  rw [e, List.length_nil] at hl
  omega
theorem maskI3 (x : UInt8) (r : Nat) (h : r < 8) : bits BinOp.xor IntKind.u8 (x.toNat : Int) (IntKind.u8.wrap (2 ^ min (IntKind.u64.wrap (IntKind.i64.wrap (7 - (r : Int)))).toNat 8)) = ((x ^^^ maskB r).toNat : Int) := by
  rw [← maskI2 x r h]
  congr 1
  have h8 : r = 0 ∨ r = 1 ∨ r = 2 ∨ r = 3 ∨ r = 4 ∨ r = 5 ∨ r = 6 ∨ r = 7 := by omega
  rcases h8 with h | h | h | h | h | h | h | h <;> subst h <;> decide
set_option linter.unusedSimpArgs false in
set_option maxRecDepth 20000 in
set_option maxHeartbeats 4000000 in
theorem mcrash_any (keep : List Int) (kv : Value) (flip : Int) (hf64 : flip ≤ 9223372036854775807) (hk64 : ∀ x ∈ keep, x ≤ 9223372036854775807) (w : World) {q : Nat} {Y : Nat → Prop} {D : Dk} (h : MAt w q Y D)
    (hkv : Rv w kv keep.length (keep.map (Value.int .i64))) (hkX : Off kv Y) :
    Calls Tryz.prog 12 #[.pointer (some ⟨q, 0, none⟩), kv, .int .i64 flip] w fun e w' => e = .returned (.tuple #[]) ∧ ∃ Y', MAt w' q Y' (D.crash keep flip) ∧ DStep Y Y' w w' := by
  obtain ⟨R, hR⟩ : ∃ R, D.crash keep flip = R := ⟨_, rfl⟩
  rw [hR]
  unfold Dk.crash at hR
  obtain ⟨gB, gF, vs, pl, hm, hp, hok⟩ := h
  obtain ⟨ak, ck, rfl, _, _⟩ := hkv.opened
  have HR := Bx.mk hR
  have HM := Bx.mk hm
  have HK := Bx.mk hok
  clear hR hm hp hok
  go_enter Tryz.func12, Tryz.ntmps12
  go_wp2_with fail
  refine (mfiles_any w HM.out).mono ?_
  rintro e w1 ⟨v, rfl, hM⟩
  have hM1 := hM.1
  rw [List.length_map] at hM1
  obtain ⟨a, c, rfl⟩ := own_isSlice hM1
  have H1 := HM.out.later hM.2
  have K1 := hkv.below hM.2
  have B1 := hM.2
  have hfl := files_len D
  have HMEM := Bx.mk (files_mem D)
  have HK64 := Bx.mk hk64
  obtain ⟨fl, hfe⟩ : ∃ l, D.files = l := ⟨_, rfl⟩
  rw [hfe] at hM1 hfl HMEM HR
  have HFE := Bx.mk hfe
  rw [hfe]
  obtain ⟨n, hn⟩ : ∃ n, fl.length = n := ⟨_, rfl⟩
  rw [hn] at hM1 hfl HR ⊢
  have HN := Bx.mk hn
  have hkl2 : keep.length ≤ maxLen := hkv.len
  obtain ⟨kn, hkn⟩ : ∃ kn, keep.length = kn := ⟨_, rfl⟩
  rw [hkn] at K1 hkl2 hkX ⊢
  have HKX := Bx.mk hkX
  have HKN := Bx.mk hkn
  have HOF := Bx.mk (Off.ge hM1 (fun b hb => HM.out.yl b hb) : Off (.slice a n c) Y)
  have HO1 := Bx.mk hM1
  have HK1 := Bx.mk K1
  have HB1 := Bx.mk B1
  have H0 : MoR w1 q gB gF vs (fun i => ((D.cutI keep fl 0).1.fs (i : Int)).1) (durs (D.cutI keep fl 0).1) D.room D.off pl Y := H1
  have CK := Bx.mk (fun i (hi : i ≤ n) => cut_ok HK.out keep fl i (by rw [HN.out]; exact hi) (fun k hk => by have := (HMEM.out k).1 hk; exact ⟨this.1, this.2.1⟩))
  clear hM hn hfe hkX hk64 hkv hkn hM1 K1 B1 H1
  go_wp2_with fail
  go_loopw [7, 8] (fun u v W => ∃ (i s : Nat) (us : List Value) (Z : Nat → Prop), u = .int .i64 (s : Int) ∧ v = .int .i64 (i : Int) ∧ i ≤ n ∧ s ≤ i * 16777216 ∧ Bx ((D.cutI keep fl i).2 = s) ∧ MoR W q gB gF us (fun j => ((D.cutI keep fl i).1.fs (j : Int)).1) (durs (D.cutI keep fl i).1) D.room D.off pl Z ∧ DStep Y Z w1 W) (fun _ v _ => n - (match v with | .int _ k => k.toNat | _ => 0))
  case atStart => exact ⟨0, 0, vs, Y, rfl, rfl, Nat.zero_le _, by simp, ⟨rfl⟩, H0, DStep.refl _ _⟩
  case round =>
    rename World => W
    obtain ⟨i, s, us, Z, rfl, rfl, hin, hs, HS, H2, S2⟩ := hrel
    have O2 := own_step HO1.out S2 HOF.out
    have K2 := rv_step HK1.out S2 HKX.out
    have hokE := CK.out i hin
    by_cases hlt : i < n
    · obtain ⟨k, hk⟩ : ∃ k, fl[i]? = some k := ⟨_, List.getElem?_eq_getElem (by rw [HN.out]; exact hlt)⟩
      have hkm := (HMEM.out k).1 (List.mem_of_getElem? hk)
      obtain ⟨f, rfl⟩ : ∃ f : Nat, k = (f : Int) := ⟨k.toNat, by omega⟩
      have hf : f < 64 := by omega
      have hfi : (f : Int) < 64 := by omega
      have hroomE : (D.cutI keep fl i).1.room = D.room := cutI_room _ _ _ _
      have hokE2 := CK.out (i + 1) hlt
      obtain ⟨E, hE⟩ : ∃ E, (D.cutI keep fl i).1 = E := ⟨_, rfl⟩
      have hnx : D.cutI keep fl (i + 1) = (E.put (f : Int) ((E.fs (f : Int)).1.take ((E.fs (f : Int)).2 + keptN keep i ((E.fs (f : Int)).1.length - (E.fs (f : Int)).2))) (E.fs (f : Int)).2, s + keptN keep i ((E.fs (f : Int)).1.length - (E.fs (f : Int)).2)) := by
        rw [← hE, ← HS.out]
        show Prod.mk _ _ = _
        rw [hk]
        rfl
      rw [hE] at H2 hokE hroomE
      have HOKE := Bx.mk hokE
      clear hE
      obtain ⟨g, off, ha, hc, hgb⟩ := own_at O2 hk
      subst ha
      obtain ⟨a2, c2, hvi, hci, hrow, hblk⟩ := H2.at hf
      have hdur := hokE.dur (f : Int)
      have hl1 := E.le_used (f : Int) (by omega) hfi
      have hl2 := hokE.used
      have hl3 := hokE.room
      have hfm := H2.fat hf (durs_at E hf)
      obtain ⟨bs, hbs⟩ : ∃ b, (E.fs (f : Int)).1 = b := ⟨_, rfl⟩
      obtain ⟨d, hd⟩ : ∃ b, (E.fs (f : Int)).2 = b := ⟨_, rfl⟩
      rw [hbs] at hvi hci hrow hblk hnx hdur hl1
      rw [hd] at hnx hdur hfm
      obtain ⟨L, hL⟩ : ∃ L, bs.length = L := ⟨_, rfl⟩
      rw [hL] at hvi hci hrow hblk hnx hdur hl1
      have hL24 : L ≤ 16777216 := by omega
      have hcap : L ≤ c2 := by
        obtain ⟨_, _, e, h, _⟩ := (Rv.of_own hrow).opened
        cases e
        exact h
      obtain ⟨M, hM⟩ : ∃ M, L - d = M := ⟨_, rfl⟩
      have hMi : (L : Int) - (d : Int) = (M : Int) := by omega
      have hMw : IntKind.i64.wrap ((L : Int) - (d : Int)) = (M : Int) := by rw [IntKind.wrap_i64]; omega
      rw [hM] at hnx
      obtain ⟨t, ht⟩ : ∃ t, keptN keep i M = t := ⟨_, rfl⟩
      have htM : t ≤ M := by rw [← ht]; exact keptN_le _ _ _
      rw [ht] at hnx
      have HNX := Bx.mk hnx
      have HT := Bx.mk ht
      have HBS := Bx.mk hbs
      have HD := Bx.mk hd
      have HL := Bx.mk hL
      have HOK2 := Bx.mk hokE2
      have HRE := Bx.mk hroomE
      clear hnx ht hbs hd hL hM hl1 hl2 hl3 hokE hokE2 hroomE hk
      go_upto_if 32 with fail
      obtain ⟨bq, hbq⟩ : ∃ b, decide (i < kn) = b := ⟨_, rfl⟩
      rw [hbq]
      go_cut [10] from 33 to 54 (fun u wx => u = .int .i64 (t : Int) ∧ Below W.heap.size W wx)
      case first =>
        cases bq with
        | true =>
          have hik : i < kn := of_decide_eq_true hbq
          obtain ⟨x, hx⟩ : ∃ x, keep[i]? = some x := ⟨_, List.getElem?_eq_getElem (by rw [HKN.out]; exact hik)⟩
          obtain ⟨gk, offk, hak, hck⟩ := rv_at K2 hx
          subst hak
          have hckd : W.drew.cell? ⟨gk, offk + i, none⟩ = some (.int .i64 x) := hck
          have hiki : (i : Int) < (kn : Int) := by omega
          have hx64 := HK64.out x (List.mem_of_getElem? hx)
          have htx : t = min x.toNat M := by rw [← HT.out]; unfold keptN; rw [hx]
          have q1 := H2.c1
          have q2 := H2.c2
          go_wp2_with fail
          go_quiet (fail)
          go_wp2_with fail
          go_meet
          refine ⟨?_, belD (Below.refl _ _) nq⟩
          rw [htx]
          congr 1
          omega
        | false =>
          have hik : ¬ i < kn := of_decide_eq_false hbq
          have hiki : ¬ (i : Int) < (kn : Int) := by omega
          have ht0 : t = 0 := by rw [← HT.out]; unfold keptN; rw [List.getElem?_eq_none (by rw [HKN.out]; omega)]
          subst ht0
          go_wp2_with fail
          go_meet
          exact ⟨by simp, Below.refl _ _⟩
      case rest =>
      rename World => w4
      obtain ⟨rfl, B4⟩ := hcut
      have S4 := S2.trans (DStep.ofBelow Z B4)
      have H4 := H2.later B4
      have W4 := own_below hrow B4
      have hci4 := (B4.cell (World.block_lt_of_cell? W _ hci)).trans hci
      have hfm4 := (B4.cell (World.block_lt_of_cell? W _ hfm)).trans hfm
      have hZW := H4.yl
      clear H2 S2 O2 K2 hrow hci hfm B4 hc hbq
      have hsum : IntKind.i64.wrap ((d : Int) + (t : Int)) = (d : Int) + (t : Int) := by rw [IntKind.wrap_i64]; omega
      have hsum2 : ((d : Int) + (t : Int)).toNat = d + t := by omega
      have hdt0 : (0 : Int) ≤ (d : Int) + (t : Int) := by omega
      have hdt : (d : Int) + (t : Int) ≤ (c2 : Int) := by omega
      have hdtL : (d : Int) + (t : Int) ≤ (L : Int) := by omega
      have hcut := own_cut W4 (d + t) (by omega)
      rw [← List.map_take] at hcut
      have HCUT := Bx.mk hcut
      have HW := Bx.mk (And.intro hsum2 hsum)
      clear hsum hsum2 hcut
      go_upto_region 10 with fail
      have s0 : w4.drew.cell? ⟨q, 1, none⟩ = some (.slice (some ⟨gB, 0, none⟩) 64 64) ∧ w4.drew.cell? ⟨q, 2, none⟩ = some (.slice (some ⟨gF, 0, none⟩) 64 64) ∧ w4.drew.cell? ⟨gF, f, none⟩ = some (.int .i64 (d : Int)) := ⟨H4.c1, H4.c2, hfm4⟩
      have hcid : w4.drew.cell? ⟨gB, f, none⟩ = some (.slice a2 L c2) := hci4
      have hsum := HW.out.2
      refine wp_region_held_drew (S := fun W => W.cell? ⟨q, 1, none⟩ = some (.slice (some ⟨gB, 0, none⟩) 64 64) ∧ W.cell? ⟨q, 2, none⟩ = some (.slice (some ⟨gF, 0, none⟩) 64 64) ∧ W.cell? ⟨gF, f, none⟩ = some (.int .i64 (d : Int))) (by kernel_rfl) s0 (fun _ => ?_)
      refine wpAnyH_do 0 55 rfl rfl (by kernel_rfl) (by kernel_rfl) (by kernel_rfl) (fun _ _ _ _ _ h => h) (by kernel_rfl) (fun W hS => by (obtain ⟨s1, s2, s3⟩ := hS); go_simp; try with_reducible rfl) s0 ?_
      simp only [List.setIfInBounds_toArray, List.set_cons_succ, List.set_cons_zero]
      refine wpAnyH_do 1 56 rfl rfl (by kernel_rfl) (by kernel_rfl) (by kernel_rfl) (fun _ _ _ _ _ h => h) (by kernel_rfl) (fun W hS => by (obtain ⟨s1, s2, s3⟩ := hS); go_simp; try with_reducible rfl) s0 ?_
      simp only [List.setIfInBounds_toArray, List.set_cons_succ, List.set_cons_zero]
      refine wpAnyH_do 2 57 rfl rfl (by kernel_rfl) (by kernel_rfl) (by kernel_rfl) (fun _ _ _ _ _ h => h) (by kernel_rfl) (fun W hS => by (obtain ⟨s1, s2, s3⟩ := hS); go_simp; try with_reducible rfl) s0 ?_
      simp only [List.setIfInBounds_toArray, List.set_cons_succ, List.set_cons_zero]
      refine wpAnyH_do 3 58 rfl rfl (by kernel_rfl) (by kernel_rfl) (by kernel_rfl) (fun _ _ _ _ _ h => h) (by kernel_rfl) (fun W hS => by (obtain ⟨s1, s2, s3⟩ := hS); go_simp; try with_reducible rfl) s0 ?_
      simp only [List.setIfInBounds_toArray, List.set_cons_succ, List.set_cons_zero]
      refine wpAnyH_do 4 59 rfl rfl (by kernel_rfl) (by kernel_rfl) (by kernel_rfl) (fun _ _ _ _ _ h => h) (by kernel_rfl) (fun W hS => by (obtain ⟨s1, s2, s3⟩ := hS); go_simp; try with_reducible rfl) s0 ?_
      simp only [List.setIfInBounds_toArray, List.set_cons_succ, List.set_cons_zero]
      refine wpAnyH_do 5 60 rfl rfl (by kernel_rfl) (by kernel_rfl) (by kernel_rfl) (fun _ _ _ _ _ h => h) (by kernel_rfl) (fun W hS => by (obtain ⟨s1, s2, s3⟩ := hS); go_simp; try with_reducible rfl) s0 ?_
      simp only [List.setIfInBounds_toArray, List.set_cons_succ, List.set_cons_zero]
      refine wpAnyH_do 6 61 rfl rfl (by kernel_rfl) (by kernel_rfl) (by kernel_rfl) (fun _ _ _ _ _ h => h) (by kernel_rfl) (fun W hS => by (obtain ⟨s1, s2, s3⟩ := hS); go_simp; try with_reducible rfl) s0 ?_
      simp only [List.setIfInBounds_toArray, List.set_cons_succ, List.set_cons_zero]
      refine wpAnyH_do 7 62 rfl rfl (by kernel_rfl) (by kernel_rfl) (by kernel_rfl) (fun _ _ _ _ _ h => h) (by kernel_rfl) (fun W hS => by (obtain ⟨s1, s2, s3⟩ := hS); go_simp; try with_reducible rfl) s0 ?_
      simp only [List.setIfInBounds_toArray, List.set_cons_succ, List.set_cons_zero]
      refine wpAnyH_do 8 63 rfl rfl (by kernel_rfl) (by kernel_rfl) (by kernel_rfl) (fun _ _ _ _ _ h => h) (by kernel_rfl) (fun W hS => by (obtain ⟨s1, s2, s3⟩ := hS); go_simp; try with_reducible rfl) s0 ?_
      simp only [List.setIfInBounds_toArray, List.set_cons_succ, List.set_cons_zero]
      refine wpAnyH_do 9 64 rfl rfl (by kernel_rfl) (by kernel_rfl) (by kernel_rfl) (fun _ _ _ _ _ h => h) (by kernel_rfl) (fun W hS => by (obtain ⟨s1, s2, s3⟩ := hS); go_simp; try with_reducible rfl) s0 ?_
      simp only [List.setIfInBounds_toArray, List.set_cons_succ, List.set_cons_zero]
      refine wpAnyH_do 10 65 rfl rfl (by kernel_rfl) (by kernel_rfl) (by kernel_rfl) (fun _ _ _ _ _ h => h) (by kernel_rfl) (fun W hS => by (obtain ⟨s1, s2, s3⟩ := hS); go_simp; try with_reducible rfl) s0 ?_
      simp only [List.setIfInBounds_toArray, List.set_cons_succ, List.set_cons_zero]
      refine wpAnyH_do 11 66 rfl rfl (by kernel_rfl) (by kernel_rfl) (by kernel_rfl) (fun _ _ _ _ _ h => h) (by kernel_rfl) (fun W hS => by (obtain ⟨s1, s2, s3⟩ := hS); go_simp; try with_reducible rfl) s0 ?_
      simp only [List.setIfInBounds_toArray, List.set_cons_succ, List.set_cons_zero]
      refine wpAnyH_do 13 68 rfl rfl (by kernel_rfl) (by kernel_rfl) (by kernel_rfl) (fun _ _ _ _ _ h => h) (by kernel_rfl) (fun W hS => by (obtain ⟨s1, s2, s3⟩ := hS); go_simp; try with_reducible rfl) s0 ?_
      simp only [List.setIfInBounds_toArray, List.set_cons_succ, List.set_cons_zero]
      refine wpAnyH_do 14 69 rfl rfl (by kernel_rfl) (by kernel_rfl) (by kernel_rfl) (fun _ _ _ _ _ h => h) (by kernel_rfl) (fun W hS => by (obtain ⟨s1, s2, s3⟩ := hS); go_simp; try with_reducible rfl) s0 ?_
      simp only [List.setIfInBounds_toArray, List.set_cons_succ, List.set_cons_zero]
      refine wpAnyH_do 15 70 rfl rfl (by kernel_rfl) (by kernel_rfl) (by kernel_rfl) (fun _ _ _ _ _ h => h) (by kernel_rfl) (fun W hS => by (obtain ⟨s1, s2, s3⟩ := hS); go_simp; try with_reducible rfl) s0 ?_
      simp only [List.setIfInBounds_toArray, List.set_cons_succ, List.set_cons_zero]
      refine wpAnyH_do 16 71 rfl rfl (by kernel_rfl) (by kernel_rfl) (by kernel_rfl) (fun _ _ _ _ _ h => h) (by kernel_rfl) (fun W hS => by (obtain ⟨s1, s2, s3⟩ := hS); go_simp; try with_reducible rfl) s0 ?_
      simp only [List.setIfInBounds_toArray, List.set_cons_succ, List.set_cons_zero]
      refine wpAnyH_do 17 72 rfl rfl (by kernel_rfl) (by kernel_rfl) (by kernel_rfl) (fun _ _ _ _ _ h => h) (by kernel_rfl) (fun W hS => by (obtain ⟨s1, s2, s3⟩ := hS); go_simp; try with_reducible rfl) s0 ?_
      simp only [List.setIfInBounds_toArray, List.set_cons_succ, List.set_cons_zero]
      refine wpAnyH_do 18 73 rfl rfl (by kernel_rfl) (by kernel_rfl) (by kernel_rfl) (fun _ _ _ _ _ h => h) (by kernel_rfl) (fun W hS => by (obtain ⟨s1, s2, s3⟩ := hS); go_simp; try with_reducible rfl) s0 ?_
      simp only [List.setIfInBounds_toArray, List.set_cons_succ, List.set_cons_zero]
      refine wpAnyH_do 19 74 rfl rfl (by kernel_rfl) (by kernel_rfl) (by kernel_rfl) (fun _ _ _ _ _ h => h) (by kernel_rfl) (fun W hS => by (obtain ⟨s1, s2, s3⟩ := hS); go_simp; try with_reducible rfl) s0 ?_
      simp only [List.setIfInBounds_toArray, List.set_cons_succ, List.set_cons_zero]
      refine wpAnyH_do 20 75 rfl rfl (by kernel_rfl) (by kernel_rfl) (by kernel_rfl) (fun _ _ _ _ _ h => h) (by kernel_rfl) (fun W hS => by (obtain ⟨s1, s2, s3⟩ := hS); go_simp; try with_reducible rfl) s0 ?_
      simp only [List.setIfInBounds_toArray, List.set_cons_succ, List.set_cons_zero]
      refine wpAnyH_do 21 76 rfl rfl (by kernel_rfl) (by kernel_rfl) (by kernel_rfl) (fun _ _ _ _ _ h => h) (by kernel_rfl) (fun W hS => by (obtain ⟨s1, s2, s3⟩ := hS); go_simp; try with_reducible rfl) s0 ?_
      simp only [List.setIfInBounds_toArray, List.set_cons_succ, List.set_cons_zero]
      refine wpAnyH_one 12 rfl (by kernel_rfl) (by kernel_rfl) (fun K hK => ?_)
      go_simp
      refine hK _ _ s0 ?_
      clear hK
      try simp only [Act.put, List.setIfInBounds_toArray, List.set_cons_zero, List.set_cons_succ]
      have hsum2 := HW.out.1
      refine wpAnyH_do 22 77 rfl rfl (by kernel_rfl) (by kernel_rfl) (by kernel_rfl) (fun _ _ _ _ _ h => h) (by kernel_rfl) (fun W hS => by (obtain ⟨s1, s2, s3⟩ := hS); go_simp; try with_reducible rfl) s0 ?_
      simp only [List.setIfInBounds_toArray, List.set_cons_succ, List.set_cons_zero]
      refine wpAnyH_one 23 rfl (by kernel_rfl) (by kernel_rfl) (fun K hK => ?_)
      obtain ⟨z, hz⟩ : ∃ z, bs.take (d + t) = z := ⟨_, rfl⟩
      have hzl : z.length = d + t := by rw [← hz, List.length_take, HL.out]; omega
      have hcut := HCUT.out
      rw [hz] at hcut
      have HZ := Bx.mk hz
      have HZL := Bx.mk hzl
      refine opApp _ _ rfl Tryz.elB w4.heap.size (.slice none 0 0) 0 [] rfl (World.ownsRow_nil _ _ _ _) (.slice a2 (d + t) c2) (d + t) _ rfl ((Rv.of_own hcut).below (Below.refl _ _).drew) (by rw [List.length_map, HZL.out]; simp) (ones_B _) (by omega) (Nat.le_refl _) ?_
      intro v6 w6 O6 g6 s6
      have B6 : Below w4.heap.size w4 w6 := (Below.refl w4.heap.size w4).drew.grown g6 (Nat.le_refl _) (fun g hg => by cases hg)
      have H6 := H4.later B6
      have s0 : w6.cell? ⟨q, 1, none⟩ = some (.slice (some ⟨gB, 0, none⟩) 64 64) ∧ w6.cell? ⟨q, 2, none⟩ = some (.slice (some ⟨gF, 0, none⟩) 64 64) ∧ w6.cell? ⟨gF, f, none⟩ = some (.int .i64 (d : Int)) := ⟨H6.c1, H6.c2, (B6.cell (World.block_lt_of_cell? w4 _ hfm4)).trans hfm4⟩
      refine hK _ _ s0 ?_
      clear hK hz hzl hcut
      rw [List.nil_append, Nat.zero_add] at O6
      obtain ⟨zl, hzl⟩ : ∃ n, d + t = n := ⟨_, rfl⟩
      rw [hzl] at O6
      have HZS := Bx.mk hzl
      obtain ⟨a6, c6, rfl⟩ := own_isSlice O6
      try simp only [Act.put, List.setIfInBounds_toArray, List.set_cons_zero, List.set_cons_succ]
      clear hzl
      refine wpAnyH_do 24 79 rfl rfl (by kernel_rfl) (by kernel_rfl) (by kernel_rfl) (fun _ _ _ _ _ h => h) (by kernel_rfl) (fun W hS => by (obtain ⟨s1, s2, s3⟩ := hS); go_simp; try with_reducible rfl) s0 ?_
      simp only [List.setIfInBounds_toArray, List.set_cons_succ, List.set_cons_zero]
      have hfz6 := H6.tab f
      have hcn6 := (B6.cell (World.block_lt_of_cell? w4 _ hci4)).trans hci4
      have hqb := H6.qb
      have hbf := H6.bf
      refine wpAnyH_one 25 rfl (by kernel_rfl) (by kernel_rfl) (fun K hK => ?_)
      go_simp
      have ht7 : ∀ y j, y ≠ gB → (w6.setCell ⟨gB, f, none⟩ (.slice a6 zl c6)).cell? ⟨y, j, none⟩ = w6.cell? ⟨y, j, none⟩ := fun y j hy => World.cell?_of_block (Below.heap_setCell _ _ _ _ hy)
      refine hK _ _ ⟨(ht7 q 1 hqb).trans s0.1, (ht7 q 2 hqb).trans s0.2.1, (ht7 gF f (fun e => hbf e.symm)).trans s0.2.2⟩ ?_
      clear hK
      have hnx := HNX.out
      have HS7 : Bx ((D.cutI keep fl (i + 1)).2 = s + t) := ⟨by rw [hnx]⟩
      have hE7 : (D.cutI keep fl (i + 1)).1 = E.put (f : Int) z (E.fs (f : Int)).2 := by rw [hnx, HD.out, HZ.out]
      have N7 := H6.put hf (v := .slice a6 zl c6) (b := z) (by rw [HZL.out, HZS.out]; exact own_base O6 (Nat.zero_le _)) (fun y hy => by
        have h1 := (O6.lt y hy).1
        refine ⟨fun e => by have := hZW q H4.yq; omega, fun e => by have := hZW gB H4.yb; omega, fun e => by have := hZW gF H4.yf; omega, fun j u _ hu e => by have := ((H4.row j u hu).1.lt y e).2; omega⟩) (fun e => by
          have h1 := HZL.out
          rw [e] at h1
          have h2 : d + t = 0 := h1.symm
          rw [HD.out]
          omega)
      rw [← hE7] at N7
      have hblk6 : ∀ y, (Value.slice a6 zl c6).ownBlock = some y → w4.heap.size ≤ y := fun y hy => (O6.lt y hy).1
      have hYB : Z gB := H4.yb
      have S7 : DStep Y (fun x => Z x ∨ (Value.slice a6 zl c6).ownBlock = some x) w1 (w6.setCell ⟨gB, f, none⟩ (.slice a6 zl c6)) := S4.trans
        ⟨B6.os, B6.tape, B6.output, by rw [World.size_setCell]; exact B6.size, fun y hy hY => (Below.heap_setCell _ _ _ _ (fun e => hY (by rw [e]; exact hYB))).trans (B6.block y hy), fun y hy => hy.elim .inl (fun hy => .inr (hblk6 y hy))⟩
      generalize w6.setCell ⟨gB, f, none⟩ (.slice a6 zl c6) = w7 at N7 S7 ⊢
      try simp only [Act.put, List.setIfInBounds_toArray, List.set_cons_zero, List.set_cons_succ]
      refine wpAnyH_done (by kernel_rfl) ?_ _
      have HN7 := Bx.mk N7
      have hst : (s : Int) + (t : Int) ≤ 9223372036854775807 := by omega
      have hst2 : s + t ≤ (i + 1) * 16777216 := by omega
      clear H6 H4 O6 g6 s6 B6 ht7 s0 hcn6 hfz6 hfm4 hci4 hZW hE7 hnx N7 hqb hbf W4 hblk6 hYB S4 hsum hsum2 hcid
      go_wp2_with fail
      go_roundw
      case rel => exact ⟨i + 1, s + t, _, _, by simp, by simp, hlt, hst2, HS7, HN7.out, S7⟩
      case measure => show n - ((i : Int) + 1).toNat < n - ((i : Int)).toNat; omega
    · obtain rfl : n = i := by omega
      clear H0 O2 K2
      have hroomE : (D.cutI keep fl n).1.room = D.room := cutI_room _ _ _ _
      have hcf := cut_files D keep fl n
      rw [HFE.out] at hcf
      obtain ⟨E0, hE0⟩ : ∃ E, (D.cutI keep fl n).1 = E := ⟨_, rfl⟩
      have hR := HR.out
      rw [hE0, HS.out] at hR
      rw [hE0] at H2 hokE hroomE hcf
      have hinv : ∀ m, E0.invertL E0.files m = E0.invertL fl m := fun m => by
        rw [hcf]
        refine invertL_skip E0 _ fl m (fun k _ hk => ?_)
        have h1 : (E0.fs k).1 = [] := by simpa using hk
        have h2 := hokE.dur k
        rw [h1] at h2 ⊢
        simp only [List.length_nil] at h2 ⊢
        omega
      rw [hinv] at hR
      obtain ⟨R2, hR2⟩ : ∃ R2, (if 0 ≤ flip ∧ 0 < s then E0.invertL fl (flip.toNat % (8 * s)) else E0) = R2 := ⟨_, rfl⟩
      rw [hR2] at hR
      have hs8 : 8 * s ≤ 8 * (64 * 16777216) := by omega
      have HR := Bx.mk hR
      have HR2 := Bx.mk hR2
      have HOK := Bx.mk hokE
      have HRM := Bx.mk hroomE
      have HH2 := Bx.mk H2
      clear hR hR2 hokE hroomE hcf hinv hE0 CK H2
      go_upto_region 13 with fail
      go_cut [88] from 83 to 88 (fun u wx => u = .bool (decide (0 ≤ flip ∧ 0 < s)) ∧ W = wx)
      case first =>
        by_cases h0 : 0 ≤ flip
        · by_cases h1 : 0 < s
          · have h1i : (0 : Int) < (s : Int) := by omega
            go_wp2_with fail
            go_meet
            exact ⟨by rw [decide_eq_true (And.intro h0 h1)], rfl⟩
          · have h1i : ¬ (0 : Int) < (s : Int) := by omega
            go_wp2_with fail
            go_meet
            exact ⟨by rw [decide_eq_false (fun h : 0 ≤ flip ∧ 0 < s => h1 h.2)], rfl⟩
        · go_wp2_with fail
          go_meet
          exact ⟨by rw [decide_eq_false (fun h : 0 ≤ flip ∧ 0 < s => by omega)], rfl⟩
      case rest =>
      obtain ⟨rfl, rfl⟩ := hcut
      go_upto_if 88 with fail
      obtain ⟨bq, hbq⟩ : ∃ b, decide (0 ≤ flip ∧ 0 < s) = b := ⟨_, rfl⟩
      rw [hbq]
      go_cut [12] from 89 to 92 (fun u wx => ∃ t : Int, u = .int .i64 t ∧ Bx (Ph R2 E0 fl t) ∧ -8 ≤ t ∧ t ≤ 8589934592 ∧ W = wx)
      case first =>
        cases bq with
        | true =>
          have hfl2 := of_decide_eq_true hbq
          obtain ⟨fn, rfl⟩ : ∃ fn : Nat, flip = (fn : Int) := ⟨flip.toNat, by omega⟩
          obtain ⟨b, hb⟩ : ∃ b, fn % (8 * s) = b := ⟨_, rfl⟩
          have hbs : b < 8 * s := by rw [← hb]; exact Nat.mod_lt _ (by omega)
          have hmod : ((fn : Int)).tmod (8 * (s : Int)) = (b : Int) := by
            rw [Int.tmod_eq_emod_of_nonneg (by omega), ← hb, Int.natCast_emod]
            rfl
          have hb0 : ¬ (8 * (s : Int)) = 0 := by omega
          have hph : Ph R2 E0 fl (b : Int) := .inl ⟨by omega, by
            have := HR2.out
            rw [if_pos hfl2, Int.toNat_natCast, hb] at this
            rw [Int.toNat_natCast]
            exact this⟩
          have HPH := Bx.mk hph
          clear hph hb hfl2
          go_wp2_with fail
          go_meet
          exact ⟨(b : Int), rfl, HPH, by omega, by omega, rfl⟩
        | false =>
          have hfl2 := of_decide_eq_false hbq
          have hph : Ph R2 E0 fl (-1) := .inr ⟨by omega, by
            have := HR2.out
            rw [if_neg hfl2] at this
            exact this⟩
          have HPH := Bx.mk hph
          clear hph hfl2
          go_wp2_with fail
          go_meet
          exact ⟨-1, rfl, HPH, by omega, by omega, rfl⟩
      case rest =>
      obtain ⟨t, rfl, HPH, ht0, ht1, rfl⟩ := hcut
      clear hbq
      go_wp2_with fail
      go_loopw [12, 13] (fun u v W => ∃ (i : Nat) (t : Int) (E : Dk) (us : List Value) (Z : Nat → Prop), u = .int .i64 t ∧ v = .int .i64 (i : Int) ∧ i ≤ n ∧ -8 - 134217728 * (i : Int) ≤ t ∧ t ≤ 8589934592 ∧ Bx (Ph R2 E (fl.drop i) t) ∧ Bx (DOk E) ∧ E.room = D.room ∧ MoR W q gB gF us (fun j => (E.fs (j : Int)).1) (durs E) D.room D.off pl Z ∧ DStep Y Z w1 W) (fun _ v _ => n - (match v with | .int _ k => k.toNat | _ => 0))
      case atStart => exact ⟨0, t, E0, us, Z, rfl, rfl, Nat.zero_le _, by omega, ht1, HPH, HOK, HRM.out, HH2.out, S2⟩
      case round =>
        clear HPH HR2 HOK HRM HH2 S2 hs hs8 HS ht0 ht1
        rename World => W
        obtain ⟨i, t, E, us, Z, rfl, rfl, hin, ht0, ht1, HPH, HOK, hrmE, H2, S2⟩ := hrel
        have O2 := own_step HO1.out S2 HOF.out
        by_cases hlt : i < n
        · obtain ⟨k, hk⟩ : ∃ k, fl[i]? = some k := ⟨_, List.getElem?_eq_getElem (by rw [HN.out]; exact hlt)⟩
          have hkm := (HMEM.out k).1 (List.mem_of_getElem? hk)
          obtain ⟨f, rfl⟩ : ∃ f : Nat, k = (f : Int) := ⟨k.toNat, by omega⟩
          have hf : f < 64 := by omega
          have hfi : (f : Int) < 64 := by omega
          have hdrop : fl.drop i = (f : Int) :: fl.drop (i + 1) := by
            rw [List.drop_eq_getElem_cons (by rw [HN.out]; exact hlt)]
            congr 1
            have := List.getElem?_eq_getElem (l := fl) (i := i) (by rw [HN.out]; exact hlt)
            rw [this] at hk
            exact Option.some.inj hk
          have hph := HPH.out
          rw [hdrop] at hph
          obtain ⟨g, off, ha, hc, hgb⟩ := own_at O2 hk
          subst ha
          have hdur := HOK.out.dur (f : Int)
          have hl1 := E.le_used (f : Int) (by omega) hfi
          have hl2 := HOK.out.used
          have hl3 := HOK.out.room
          have hfm := H2.fat hf (durs_at E hf)
          obtain ⟨d, hd⟩ : ∃ b, (E.fs (f : Int)).2 = b := ⟨_, rfl⟩
          obtain ⟨L, hL⟩ : ∃ L, (E.fs (f : Int)).1.length = L := ⟨_, rfl⟩
          rw [hd] at hdur hfm
          rw [hL] at hdur hl1
          have hL24 : L ≤ 16777216 := by omega
          have HD := Bx.mk hd
          have HL := Bx.mk hL
          have HP2 := Bx.mk (hph.start d)
          have c2 := H2.c2
          have HRE := Bx.mk hrmE
          have HC := Bx.mk hc
          clear hl1 hl2 hl3 hph hdrop hk hd hL HPH hrmE
          go_wp2_with fail
          go_loopw [12, 15] (fun u v W2 => ∃ (kk : Nat) (t2 : Int) (E : Dk) (us : List Value), u = .int .i64 t2 ∧ v = .int .i64 (kk : Int) ∧ d ≤ kk ∧ kk ≤ L ∧ -8 - 134217728 * (i : Int) - 8 * ((kk - d : Nat) : Int) ≤ t2 ∧ t2 ≤ 8589934592 ∧ Bx (Ph2 R2 E (fl.drop (i + 1)) (f : Int) d kk t2) ∧ Bx (DOk E) ∧ Bx (E.room = D.room) ∧ Bx ((E.fs (f : Int)).1.length = L) ∧ Bx ((E.fs (f : Int)).2 = d) ∧ MoR W2 q gB gF us (fun j => (E.fs (j : Int)).1) (durs E) D.room D.off pl Z ∧ DStep Y Z w1 W2) (fun _ v _ => L - (match v with | .int _ k => k.toNat | _ => 0))
          case atStart => exact ⟨d, t, E, us, rfl, rfl, Nat.le_refl _, hdur, by omega, ht1, HP2, HOK, HRE, HL, HD, H2, S2⟩
          case round =>
            clear HP2 HOK HRE HL HD H2 S2 hfm c2 hc O2 ht0 ht1
            rename World => W2
            obtain ⟨kk, t2, E2, us2, rfl, rfl, hk0, hkL, ht0, ht1, HP2, HOK, HRE, HL, HD, H2, S2⟩ := hrel
            obtain ⟨a2, c2, hvi, hci, hrow, hblk⟩ := H2.at hf
            have q1 := H2.c1
            rw [HL.out] at hvi hci hrow hblk
            by_cases hklt : kk < L
            · have hklti : (kk : Int) < (L : Int) := by omega
              by_cases hbit : 0 ≤ t2 ∧ t2 < 8
              · obtain ⟨r, rfl⟩ : ∃ r : Nat, t2 = (r : Int) := ⟨t2.toNat, by omega⟩
                have hr8 : r < 8 := by omega
                have hr8i : (r : Int) < 8 := by omega
                have hfl2 := HP2.out.flip hr8 hk0 (by rw [HL.out]; exact hklt) HD.out
                obtain ⟨m, hm⟩ : ∃ m, L = m + 1 := ⟨L - 1, by omega⟩
                have hrow' := hrow
                rw [hm] at hrow'
                obtain ⟨g2, cap2, e, _, hcap, hcell, hfrz⟩ := own_open hrow'
                rw [← hm] at e hcap hcell
                injection e with e1 e2 e3
                subst e1 e3
                obtain ⟨x, hx⟩ : ∃ x, (E2.fs (f : Int)).1 = x := ⟨_, rfl⟩
                obtain ⟨z, hz⟩ : ∃ z, x[kk]? = some z := ⟨_, List.getElem?_eq_getElem (by rw [← hx, HL.out]; exact hklt)⟩
                rw [hx] at hcell hrow hfl2
                have hcx := hcell kk hklt
                rw [List.getElem?_map, hz] at hcx
                simp only [Option.map_some, vB] at hcx
                have hX8 := maskI3 z r hr8
                obtain ⟨y, hy⟩ : ∃ y, z ^^^ maskB r = y := ⟨_, rfl⟩
                rw [hy] at hX8
                have hst := (hrow.stored kk (vB y)).1
                have hfs := flipB_set x (8 * kk + r) z (by rw [show (8 * kk + r) / 8 = kk by omega]; exact hz)
                rw [show (8 * kk + r) / 8 = kk by omega, show (8 * kk + r) % 8 = r by omega, hy] at hfs
                rw [← List.map_set, ← hfs] at hst
                have hfz := hfrz kk
                have hkc : (kk : Int) < (c2 : Int) := by omega
                have hgZ := (hblk g2 rfl).1
                have q1d : W2.drew.cell? ⟨q, 1, none⟩ = some (.slice (some ⟨gB, 0, none⟩) 64 64) := q1
                have hcid : W2.drew.cell? ⟨gB, f, none⟩ = some (.slice (some ⟨g2, 0, none⟩) L c2) := hci
                have hcxd : W2.drew.cell? ⟨g2, kk, none⟩ = some (.int .u8 (z.toNat : Int)) := hcx
                have hfzd : W2.drew.frozen? ⟨g2, kk, none⟩ = false := hfz
                have hbl : (flipB x (8 * kk + r)).length = L := by rw [flipB_len, ← hx, HL.out]
                have N3 := H2.rerow (w' := (W2.setCell ⟨g2, kk, none⟩ (vB y)).drew) hvi hbl hst (Nat.le_of_eq (World.size_setCell _ _ _).symm) (fun j _ hj => Below.heap_setCell _ _ _ _ hj)
                have hEq : (fun j => if j = f then flipB x (8 * kk + r) else (E2.fs (j : Int)).1) = fun (j : Nat) => (R2.fs (j : Int)).1 := funext fun j => by
                  rw [← hfl2]
                  by_cases e : j = f
                  · subst e; rw [put_fs0, if_pos rfl]
                  · rw [put_fs1 E2 _ _ (show (j : Int) ≠ (f : Int) by omega), if_neg e]
                have hdu : durs E2 = durs R2 := by
                  rw [← hfl2, ← HD.out, ← hx, durs_flip HOK.out hf]
                rw [hEq, hdu] at N3
                have HOR : Bx (DOk R2) := ⟨by rw [← hfl2, ← HD.out, ← hx]; exact flip_ok HOK.out ⟨by omega, hfi⟩ _⟩
                have HRR : Bx (R2.room = D.room) := ⟨by rw [← hfl2]; exact HRE.out⟩
                have HLR : Bx ((R2.fs (f : Int)).1.length = L) := ⟨by rw [← hfl2, put_fs0]; exact hbl⟩
                have HDR : Bx ((R2.fs (f : Int)).2 = d) := ⟨by rw [← hfl2]; have := flip_dur HOK.out (f := (f : Int)) (8 * kk + r); rw [HD.out, hx] at this; exact this⟩
                have S3 : DStep Y Z w1 (W2.setCell ⟨g2, kk, none⟩ (vB y)).drew := S2.trans ⟨rfl, rfl, rfl, Nat.le_of_eq (World.size_setCell _ _ _).symm, fun j _ hj => Below.heap_setCell _ _ _ _ (fun e => hj (by rw [e]; exact hgZ)), fun j hj => .inl hj⟩
                have HN3 := Bx.mk N3
                have HS3 := Bx.mk S3
                have HX8 := Bx.mk hX8
                unfold vB at HN3 HS3
                clear hfl2 hm hrow hrow' hcell hfrz hst hfs hX8 hy N3 S3 hEq hdu hbl hx hz H2 S2 HP2 hgZ hblk hvi HL HD HOK HRE e2 hcap
                go_upto_region 23 with fail
                go_still_tail 24, (by kernel_rfl)
                change wpList _ _ _ _ _ W2.drew
                rw [HX8.out]
                go_wp2_with fail
                go_roundw
                case rel => exact ⟨kk + 1, (r : Int) - 8, R2, us2, rfl, by simp, by omega, hklt, by omega, by omega, ⟨.inr ⟨by omega, rfl⟩⟩, HOR, HRR, HLR, HDR, HN3.out, HS3.out⟩
                case measure => show L - ((kk : Int) + 1).toNat < L - ((kk : Int)).toNat; omega
              · have HP3 : Bx (Ph2 R2 E2 (fl.drop (i + 1)) (f : Int) d (kk + 1) (t2 - 8)) := ⟨HP2.out.next hk0 hbit⟩
                have HH2 := Bx.mk H2
                clear hrow hblk hvi H2 HP2
                by_cases h0 : 0 ≤ t2
                · have h8 : ¬ t2 < 8 := by omega
                  clear hbit
                  go_wp2_with fail
                  go_roundw
                  case rel => exact ⟨kk + 1, t2 - 8, E2, us2, rfl, by simp, by omega, hklt, by omega, by omega, HP3, HOK, HRE, HL, HD, HH2.out, S2⟩
                  case measure => show L - ((kk : Int) + 1).toNat < L - ((kk : Int)).toNat; omega
                · clear hbit
                  go_wp2_with fail
                  go_roundw
                  case rel => exact ⟨kk + 1, t2 - 8, E2, us2, rfl, by simp, by omega, hklt, by omega, by omega, HP3, HOK, HRE, HL, HD, HH2.out, S2⟩
                  case measure => show L - ((kk : Int) + 1).toNat < L - ((kk : Int)).toNat; omega
            · obtain rfl : L = kk := by omega
              have HP3 : Bx (Ph R2 E2 (fl.drop (i + 1)) t2) := ⟨HP2.out.end' HL.out HD.out⟩
              have HH2 := Bx.mk H2
              have HRE2 := HRE.out
              have hti : -8 - 134217728 * ((i : Int) + 1) ≤ t2 := by omega
              clear hrow hblk hvi H2 HP2
              have HAR : -8 - 134217728 * (((i + 1 : Nat)) : Int) ≤ t2 := by omega
              go_wp2_with fail
              refine ⟨⟨i + 1, t2, E2, us2, Z, rfl, by simp, hlt, HAR, ht1, HP3, HOK, HRE2, HH2.out, S2⟩, ?_⟩
              show n - ((i : Int) + 1).toNat < n - ((i : Int)).toNat
              omega
        · obtain rfl : n = i := by omega
          have ht : fl.drop n = [] := List.drop_eq_nil_of_le (by rw [HN.out]; exact Nat.le_refl _)
          have hE : E = R2 := by
            rcases HPH.out with ⟨_, h⟩ | ⟨_, h⟩
            · rw [ht, Dk.invertL] at h; exact h
            · exact h
          rw [hE] at HOK hrmE H2
          clear hE HPH ht0 ht1 ht
          have HH2 := Bx.mk (show MoR W q gB gF us (fun j => (R2.fs (j : Int)).1) (hardF R2 0) D.room D.off pl Z from H2)
          clear H2 O2
          go_wp2_with fail
          go_loopw [16] (fun u W2 => ∃ (j : Nat), u = .int .i64 (j : Int) ∧ j ≤ 64 ∧ MoR W2 q gB gF us (fun j => (R2.fs (j : Int)).1) (hardF R2 j) D.room D.off pl Z ∧ DStep Y Z w1 W2) (fun u _ => 64 - (match u with | .int _ k => k.toNat | _ => 0))
          case atStart => exact ⟨0, rfl, Nat.zero_le _, HH2.out, S2⟩
          case round =>
            clear HH2 S2
            rename World => W2
            obtain ⟨i, rfl, hi, H3, S3⟩ := hrel
            by_cases hlt : i < 64
            · have hlti : (i : Int) < 64 := by omega
              obtain ⟨a, c, hvi, hci, hrow, hblk⟩ := H3.at hlt
              have hfi := H3.fat hlt (hardF_at R2 hlt)
              have hset := hardF_set R2 hlt
              have HFS := Bx.mk (H3.firm i ((R2.fs (i : Int)).1.length : Int))
              obtain ⟨L, hL⟩ : ∃ L, (R2.fs (i : Int)).1.length = L := ⟨_, rfl⟩
              rw [hL] at hci hset HFS
              rw [if_neg (Nat.lt_irrefl _)] at hfi
              rw [hset] at HFS
              obtain ⟨d0, hd0⟩ : ∃ d, ((R2.fs (i : Int)).2 : Int) = d := ⟨_, rfl⟩
              rw [hd0] at hfi
              have c1d : W2.drew.cell? ⟨q, 1, none⟩ = some (.slice (some ⟨gB, 0, none⟩) 64 64) := H3.c1
              have c2d : W2.drew.cell? ⟨q, 2, none⟩ = some (.slice (some ⟨gF, 0, none⟩) 64 64) := H3.c2
              have hcid : W2.drew.cell? ⟨gB, i, none⟩ = some (.slice a L c) := hci
              have hfid : W2.drew.cell? ⟨gF, i, none⟩ = some (.int .i64 d0) := hfi
              have hzd : W2.drew.frozen? ⟨gF, i, none⟩ = false := H3.ftab i
              have S4 : DStep Y Z w1 (W2.setCell ⟨gF, i, none⟩ (.int .i64 (L : Int))).drew := S3.trans ⟨rfl, rfl, rfl, Nat.le_of_eq (World.size_setCell _ _ _).symm, fun y _ hY => (Below.heap_setCell _ _ _ _ (fun e => hY (by rw [e]; exact H3.yf))), fun y hy => .inl hy⟩
              clear hset hL hd0 hrow hblk hvi H3 S3 hci hfi
              go_upto_region 28 with fail
              go_still_tail 14, (by kernel_rfl)
              change wpList _ _ _ _ _ W2.drew
              go_wp2_with fail
              go_roundw
              case rel => exact ⟨i + 1, by simp, hlt, HFS.out.later (Below.refl _ _).drew, S4⟩
              case measure => show 64 - ((i : Int) + 1).toNat < 64 - ((i : Int)).toNat; omega
            · obtain rfl : i = 64 := by omega
              rw [hardF_64] at H3
              have n3 := H3.c3
              have n4 := H3.c4
              have nf := fun j => H3.fz j
              have hnb := H3.blk
              unfold moO at hnb
              have HN3 := Bx.mk H3
              have HNB := Bx.mk hnb
              have hyq := H3.yq
              have hokR := harden_ok HOK.out
              have HOR : Bx (DOk R) := ⟨by rw [← HR.out]; exact ⟨hokR.out, hokR.dur, hokR.room, hokR.used, Nat.zero_le _⟩⟩
              have HRF : Bx (R.fs = R2.harden.fs ∧ R.room = D.room ∧ R.off = false ∧ R.armed = false) := ⟨by rw [← HR.out]; exact ⟨rfl, hrmE, rfl, rfl⟩⟩
              clear H3 hnb hokR
              go_wp2_with fail
              go_end0
              have S5 : DStep Y Z w ((W2.setCell ⟨q, 3, none⟩ (.bool false)).setCell ⟨q, 4, none⟩ (.int .i64 (-1))) := (DStep.ofBelow Y HB1.out).trans (S3.trans ((((PStep.refl q W2).set 3 (.bool false)).set 4 (.int .i64 (-1))).toD hyq))
              obtain ⟨f1, f2, f3, f4⟩ := HRF.out
              refine ⟨rfl, Z, ⟨gB, gF, us, -1, ?_, ⟨(fun h => by rw [f4] at h; cases h), (fun _ => by omega)⟩, HOR.out⟩, S5⟩
              have e : durs R = durs R2.harden := by unfold durs; rw [f1]
              rw [e, f1, f2, f3]
              refine HN3.out.turn ?_ (by simp) (fun k _ hk => (Below.heap_setCell _ _ _ _ hk).trans (Below.heap_setCell _ _ _ _ hk))
              have := setBlk (setBlk HNB.out 3 (.bool false)) 4 (.int .i64 (-1))
              simp only [List.setIfInBounds_toArray, List.set_cons_succ, List.set_cons_zero] at this
              unfold moO
              exact this
end Go.Proofs.YtpehnggglolnoaaGreat
