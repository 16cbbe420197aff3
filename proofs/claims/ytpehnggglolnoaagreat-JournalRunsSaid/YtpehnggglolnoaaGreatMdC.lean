/- The model of a disk: Append. -/
import Derived.Test.YtpehnggglolnoaaGreatMdB
import Derived.Test.YtpehnggglolnoaaGreatHeld
import Derived.BigQuiet
import Derived.Deep.QuietTactic
namespace Go.Proofs.YtpehnggglolnoaaGreat
open Go.RowKit

theorem put_fails (D : Dk) (k : Int) (b : List UInt8) (d : Nat) : (D.put k b d).fails = D.fails.put k b d ∧ (D.put k b d).failsB = D.failsB := by
  refine ⟨?_, rfl⟩
  unfold Dk.fails
  show (if D.armed = true then _ else _) = _
  split
  · show (if 0 < D.left then _ else _) = _
    split <;> rfl
  · rfl
theorem put_ok {D : Dk} (h : DOk D) {k : Int} (hk : 0 ≤ k ∧ k < 64) {b : List UInt8} {d : Nat} (hd : d ≤ b.length) (hu : ((D.put k b d).used : Int) ≤ D.room) : DOk (D.put k b d) := by
  refine ⟨fun j hj => ?_, fun j => ?_, h.room, hu, h.left⟩
  · have : ¬ j = k := fun e => hj (e ▸ hk)
    simp only [Dk.put, if_neg this]
    exact h.out j hj
  · by_cases e : j = k
    · subst e
      simp only [Dk.put, if_true]
      show (if b = [] then 0 else d) ≤ b.length
      split <;> omega
    · simp only [Dk.put, if_neg e]
      exact h.dur j
theorem fails_ok {D : Dk} (h : DOk D) : DOk D.fails := by
  obtain ⟨h1, h2⟩ := fails_fs D
  refine ⟨by rw [h1]; exact h.out, by rw [h1]; exact h.dur, by rw [h2]; exact h.room, by unfold Dk.used; rw [h1, h2]; exact h.used, ?_⟩
  have := h.left
  unfold Dk.fails
  split
  · split
    · show D.left - 1 ≤ _; omega
    · exact this
  · exact this
theorem put_plan {D : Dk} {pl : Int} (h : PlanOf D pl) (k : Int) (b : List UInt8) (d : Nat) : PlanOf (D.put k b d) pl := h
theorem put_fs0 (D : Dk) (k : Int) (b : List UInt8) (d : Nat) : (D.put k b d).fs k = (b, if b = [] then 0 else d) := by simp [Dk.put]
theorem put_fs1 (D : Dk) {k j : Int} (b : List UInt8) (d : Nat) (h : j ≠ k) : (D.put k b d).fs j = D.fs j := by simp [Dk.put, h]
theorem durs_put (D : Dk) {i : Nat} (hi : i < 64) (b : List UInt8) (d : Nat) : durs (D.put (i : Int) b d) = (durs D).set i ((if b = [] then 0 else d : Nat) : Int) := by
  unfold durs
  apply List.ext_getElem?
  intro j
  rw [List.getElem?_set, List.getElem?_map, List.getElem?_map]
  by_cases e : i = j
  · subst e
    rw [List.getElem?_range hi, if_pos rfl, if_pos (by simp; exact hi)]
    simp only [Option.map_some, put_fs0]
  · rw [if_neg e]
    by_cases hj : j < 64
    · rw [List.getElem?_range hj]
      simp only [Option.map_some, put_fs1 D b d (show (j : Int) ≠ (i : Int) by omega)]
    · rw [List.getElem?_eq_none (by simpa using hj)]
      rfl
theorem durs_same (D : Dk) {i : Nat} (hi : i < 64) (b : List UInt8) (h : b = [] → (D.fs (i : Int)).2 = 0) : durs (D.put (i : Int) b (D.fs (i : Int)).2) = durs D := by
  rw [durs_put D hi]
  have e : (if b = [] then 0 else (D.fs (i : Int)).2) = (D.fs (i : Int)).2 := by
    split
    · rw [h (by assumption)]
    · rfl
  rw [e]
  apply List.ext_getElem?
  intro j
  rw [List.getElem?_set]
  by_cases e : i = j
  · subst e
    rw [if_pos rfl, if_pos (by simp [durs]; exact hi), durs_at D hi]
  · rw [if_neg e]
section
variable {w w' : World} {q gB gF : Nat} {vs : List Value} {bs : Nat → List UInt8} {fm : List Int} {room : Int} {off : Bool} {pl : Int} {Y : Nat → Prop} {D : Dk}
/-- A new row is stored: what the model is then. -/
theorem MoR.put (h : MoR w q gB gF vs (fun i => (D.fs (i : Int)).1) (durs D) room off pl Y) {i : Nat} (hi : i < 64) {v : Value} {b : List UInt8} (hv : w.ownsRow 0 5 1 v b.length (b.map vB))
    (hvb : ∀ x, v.ownBlock = some x → x ≠ q ∧ x ≠ gB ∧ x ≠ gF ∧ ∀ j u, j ≠ i → vs[j]? = some u → u.ownBlock ≠ some x) (hd : b = [] → (D.fs (i : Int)).2 = 0) :
    MoR (w.setCell ⟨gB, i, none⟩ v) q gB gF (vs.set i v) (fun j => ((D.put (i : Int) b (D.fs (i : Int)).2).fs (j : Int)).1) (durs (D.put (i : Int) b (D.fs (i : Int)).2)) room off pl (fun x => Y x ∨ v.ownBlock = some x) := by
  have := h.store hi hv hvb
  rw [durs_same D hi b hd]
  rw [show (fun (j : Nat) => ((D.put (i : Int) b (D.fs (i : Int)).2).fs (j : Int)).1) = fun j => if j = i then b else (D.fs (j : Int)).1 from funext fun j => by
    by_cases e : j = i
    · subst e; rw [put_fs0, if_pos rfl]
    · rw [put_fs1 D _ _ (show (j : Int) ≠ (i : Int) by omega), if_neg e]]
  exact this
end
set_option linter.unusedSimpArgs false in
set_option maxRecDepth 20000 in
set_option maxHeartbeats 1000000 in
theorem mappend_any (k : Int) (bv : Value) (b : List UInt8) (w : World) {q : Nat} {Y : Nat → Prop} {D : Dk} (h : MAt w q Y D) (hb : Rv w bv b.length (b.map vB)) (hbl : b.length ≤ 1000000000) :
    Calls Tryz.prog 37 #[.pointer (some ⟨q, 0, none⟩), .int .i64 k, bv] w fun e w' => e = .returned (.int .i64 (D.append k b).1) ∧ ∃ Y', MAt w' q Y' (D.append k b).2 ∧ DStep Y Y' w w' := by
  obtain ⟨ab, cb, rfl, _, _⟩ := hb.opened
  obtain ⟨gB, gF, vs, pl, hm, hp, hok⟩ := h
  have c0 := hm.c0
  have c1 := hm.c1
  have c3 := hm.c3
  have hu1 : D.used ≤ 16777216 := by have := hok.used; have := hok.room; omega
  have hrm := hok.room
  obtain ⟨U, hU⟩ : ∃ U, D.used = U := ⟨_, rfl⟩
  have hU2 : (U : Int) ≤ D.room := by rw [← hU]; exact hok.used
  have HQ := Bx.mk (fun W (hW : W.heap = w.heap) => mused_any W (hm.kept (w' := W) (by rw [hW]; exact Nat.le_refl _) (fun b _ => by rw [hW])) hu1)
  rw [hU] at HQ hu1
  have HM := Bx.mk hm
  have HP := Bx.mk hp
  have HK := Bx.mk hok
  have HU := Bx.mk hU
  obtain ⟨R, hR⟩ : ∃ R, D.room = R := ⟨_, rfl⟩
  rw [hR] at c0 hrm hU2
  have HR := Bx.mk hR
  clear hm hp hok hU hR
  go_enter Tryz.func37, Tryz.ntmps37
  by_cases hk : 0 ≤ k ∧ k < 64
  · have hk0 : ¬ k < 0 := by omega
    have hk1 : ¬ 63 < k := by omega
    obtain ⟨i, rfl⟩ : ∃ i : Nat, k = (i : Int) := ⟨k.toNat, by omega⟩
    have hi : i < 64 := by omega
    cases ho : D.off
    · rw [ho] at c3
      have hw' : IntKind.i64.wrap ((U : Int) + (b.length : Int)) = (U : Int) + (b.length : Int) := by rw [IntKind.wrap_i64]; omega
      have hs0 : (0 : Int) ≤ (U : Int) + (b.length : Int) := by omega
      have c0d : w.drew.cell? ⟨q, 0, none⟩ = some (.int .i64 R) := c0
      by_cases hf : R < (U : Int) + (b.length : Int)
      · have hA : D.append (i : Int) b = (18, D) := by
          unfold Dk.append
          rw [if_neg (by simpa using hk), ho, if_neg (by simp), if_pos (by rw [HU.out, HR.out]; omega)]
        have HA := Bx.mk hA
        have HO := Bx.mk ho
        clear hA ho
        go_wp2_with fail
        go_quiet ((go_at_call 51; exact Calls.quiet_of (HQ.out _ rfl)))
        go_wp2_with fail
        go_ret
        rw [HA.out]
        exact ⟨rfl, Y, ⟨gB, gF, vs, pl, HM.out.later (belD (Below.refl _ _) nq), HP.out, HK.out⟩, DStep.ofBelow Y (belD (Below.refl _ _) nq)⟩
      · have hA : D.append (i : Int) b = ((if D.failsB then 19 else 0), D.fails.put (i : Int) ((D.fs (i : Int)).1 ++ b) (D.fs (i : Int)).2) := by
          unfold Dk.append
          rw [if_neg (by simpa using hk), ho, if_neg (by simp), if_neg (by rw [HU.out, HR.out]; omega)]
        have HA := Bx.mk hA
        have HO := Bx.mk ho
        clear hA ho
        go_wp2_with fail
        go_quiet ((go_at_call 51; exact Calls.quiet_of (HQ.out _ rfl)))
        have H1 := HM.out.later (belD (Below.refl w.heap.size w) nq)
        have R1 := hb.below (belD (Below.refl w.heap.size w) nq)
        have S1 := DStep.ofBelow Y (belD (Below.refl w.heap.size w) nq)
        generalize w.drewN nq = w1 at H1 R1 S1 ⊢
        clear c0 c1 c3 c0d HQ
        obtain ⟨a, c, hvi, hci, hrow, hblk⟩ := H1.at hi
        have hroom : ((D.put (i : Int) ((D.fs (i : Int)).1 ++ b) (D.fs (i : Int)).2).used : Int) ≤ D.room := by
          have hu := D.used_put (i : Int) ((D.fs (i : Int)).1 ++ b) (D.fs (i : Int)).2 hk.1 hk.2
          rw [HU.out, List.length_append] at hu
          rw [HR.out]
          omega
        have hok2 := put_ok HK.out hk (b := (D.fs (i : Int)).1 ++ b) (d := (D.fs (i : Int)).2) (by have := HK.out.dur (i : Int); rw [List.length_append]; omega) hroom
        have hlen : (D.fs (i : Int)).1.length ≤ 16777216 := by
          have := D.le_used (i : Int) hk.1 hk.2
          rw [HU.out] at this
          omega
        have hdz : (D.fs (i : Int)).1 ++ b = [] → (D.fs (i : Int)).2 = 0 := fun e => by
          have h1 := HK.out.dur (i : Int)
          rw [(List.append_eq_nil_iff.1 e).1] at h1
          simpa using h1
        obtain ⟨pf1, pf2⟩ := put_fails D (i : Int) ((D.fs (i : Int)).1 ++ b) (D.fs (i : Int)).2
        have HPF := Bx.mk pf1
        have HPB := Bx.mk pf2
        have HDZ := Bx.mk hdz
        have HOK := Bx.mk hok2
        obtain ⟨x, hx⟩ : ∃ x, (D.fs (i : Int)).1 = x := ⟨_, rfl⟩
        have HX := Bx.mk hx
        rw [hx] at hvi hci hrow hblk hlen
        have c1 := H1.c1
        have c1d : w1.drew.cell? ⟨q, 1, none⟩ = some (.slice (some ⟨gB, 0, none⟩) 64 64) := c1
        clear hx pf1 pf2 hdz hok2 hroom
        have hi' : (i : Int) < 64 := by omega
        go_wp2_with (at_builtin; go_loud (refine wpList_app2 _ rfl _ _ rfl Tryz.elB w1.heap.size (.slice none 0 0) 0 [] rfl (World.ownsRow_nil _ _ _ _) _ x.length _ rfl (Rv.of_own hrow) (by simp) (ones_B _) (by omega) (Nat.le_refl _) ?_; intro v5 w5 O5 g5 s5; refine later ?_))
        refine Later.in ?_
        rw [List.nil_append, Nat.zero_add] at O5
        obtain ⟨a5, c5, rfl⟩ := own_isSlice O5
        have B5 : Below w1.heap.size w1 w5 := (Below.refl _ _).grown g5 (Nat.le_refl _) (fun g hg => by cases hg)
        have H5 := H1.later B5
        have R5 := R1.below B5
        have S5 := S1.trans (DStep.ofBelow Y B5)
        have hlo : ∀ y, (Value.slice a5 x.length c5).ownBlock = some y → w1.heap.size ≤ y := fun y hy => (O5.lt y hy).1
        have hYl := H1.yl
        have hs5 := B5.size
        have HVL := Bx.mk H1.vl
        have HSZ := Bx.mk S1.size
        have HYQ := Bx.mk H1.yq
        have HLOW := Bx.mk (show ∀ (j : Nat) (u : Value), vs[j]? = some u → ∀ y, u.ownBlock = some y → y < w1.heap.size from fun j u hu y hy => ((H1.row j u hu).1.lt y hy).2)
        have hqw := H1.lt
        have hgw : gB < w1.heap.size := H1.yl _ H1.yb
        clear H1 R1 S1 hvi hci hrow hblk g5 s5 c1 c1d B5
        have HYF5 := H5.yf
        go_upto_region 9 with fail
        have c15 : w5.drew.cell? ⟨q, 1, none⟩ = some (.slice (some ⟨gB, 0, none⟩) 64 64) := H5.c1
        refine wp_region_held_drew (S := fun W => W.cell? ⟨q, 1, none⟩ = some (.slice (some ⟨gB, 0, none⟩) 64 64)) (by kernel_rfl) c15 (fun _ => ?_)
        refine wpAnyH_do 0 38 rfl rfl (by kernel_rfl) (by kernel_rfl) (by kernel_rfl) (fun _ _ _ _ _ h => h) (by kernel_rfl) (fun W hS => by (obtain s1 := hS); go_simp; try with_reducible rfl) c15 ?_
        simp only [List.setIfInBounds_toArray, List.set_cons_succ, List.set_cons_zero]
        refine wpAnyH_do 1 39 rfl rfl (by kernel_rfl) (by kernel_rfl) (by kernel_rfl) (fun _ _ _ _ _ h => h) (by kernel_rfl) (fun W hS => by (obtain s1 := hS); go_simp; try with_reducible rfl) c15 ?_
        simp only [List.setIfInBounds_toArray, List.set_cons_succ, List.set_cons_zero]
        refine wpAnyH_do 2 40 rfl rfl (by kernel_rfl) (by kernel_rfl) (by kernel_rfl) (fun _ _ _ _ _ h => h) (by kernel_rfl) (fun W hS => by (obtain s1 := hS); go_simp; try with_reducible rfl) c15 ?_
        simp only [List.setIfInBounds_toArray, List.set_cons_succ, List.set_cons_zero]
        refine wpAnyH_do 3 41 rfl rfl (by kernel_rfl) (by kernel_rfl) (by kernel_rfl) (fun _ _ _ _ _ h => h) (by kernel_rfl) (fun W hS => by (obtain s1 := hS); go_simp; try with_reducible rfl) c15 ?_
        simp only [List.setIfInBounds_toArray, List.set_cons_succ, List.set_cons_zero]
        refine wpAnyH_do 4 42 rfl rfl (by kernel_rfl) (by kernel_rfl) (by kernel_rfl) (fun _ _ _ _ _ h => h) (by kernel_rfl) (fun W hS => by (obtain s1 := hS); go_simp; try with_reducible rfl) c15 ?_
        simp only [List.setIfInBounds_toArray, List.set_cons_succ, List.set_cons_zero]
        refine wpAnyH_do 5 43 rfl rfl (by kernel_rfl) (by kernel_rfl) (by kernel_rfl) (fun _ _ _ _ _ h => h) (by kernel_rfl) (fun W hS => by (obtain s1 := hS); go_simp; try with_reducible rfl) c15 ?_
        simp only [List.setIfInBounds_toArray, List.set_cons_succ, List.set_cons_zero]
        refine wpAnyH_do 6 44 rfl rfl (by kernel_rfl) (by kernel_rfl) (by kernel_rfl) (fun _ _ _ _ _ h => h) (by kernel_rfl) (fun W hS => by (obtain s1 := hS); go_simp; try with_reducible rfl) c15 ?_
        simp only [List.setIfInBounds_toArray, List.set_cons_succ, List.set_cons_zero]
        refine wpAnyH_one 7 rfl (by kernel_rfl) (by kernel_rfl) (fun K hK => ?_)
        refine opApp _ _ rfl Tryz.elB w1.heap.size (.slice a5 x.length c5) x.length _ rfl (own_below O5 (Below.refl _ _).drew) (.slice ab b.length cb) b.length _ rfl (R5.below (Below.refl _ _).drew) (by simp) (ones_B _) (by omega) hs5 ?_
        intro v6 w6 O6 g6 s6
        have g6 : w5.grownBy w6 (Value.slice a5 x.length c5).ownBlock := ⟨g6.os, g6.tape, g6.output, g6.size, g6.block⟩
        have hk6 : ∀ y, Y y → w6.heap[y]? = w5.heap[y]? := fun y hy => g6.block y (by have := hYl y hy; omega) (fun e => by have := hlo y e.symm; have := hYl y hy; omega)
        have H6 := H5.kept (w' := w6) g6.size hk6
        have c16 := H6.c1
        refine hK _ _ c16 ?_
        clear hK
        have O6 : w6.ownsRow w1.heap.size 5 1 v6 (x ++ b).length ((x ++ b).map vB) := by rw [List.length_append, List.map_append]; exact O6
        obtain ⟨z, hz⟩ : ∃ z, x ++ b = z := ⟨_, rfl⟩
        rw [hz] at O6
        have HZ := Bx.mk hz
        obtain ⟨zl, hzl⟩ : ∃ n, z.length = n := ⟨_, rfl⟩
        rw [hzl] at O6
        have HZL := Bx.mk hzl
        clear hz hzl
        obtain ⟨a6, c6, rfl⟩ := own_isSlice O6
        try simp only [Act.put, List.setIfInBounds_toArray, List.set_cons_zero, List.set_cons_succ]
        refine wpAnyH_do 8 46 rfl rfl (by kernel_rfl) (by kernel_rfl) (by kernel_rfl) (fun _ _ _ _ _ h => h) (by kernel_rfl) (fun W hS => by (obtain s1 := hS); go_simp; try with_reducible rfl) c16 ?_
        simp only [List.setIfInBounds_toArray, List.set_cons_succ, List.set_cons_zero]
        obtain ⟨a0, c0, _, hci, _, _⟩ := H6.at hi
        have hfz := H6.tab i
        refine wpAnyH_one 9 rfl (by kernel_rfl) (by kernel_rfl) (fun K hK => ?_)
        go_simp
        have c17 : (w6.setCell ⟨gB, i, none⟩ (.slice a6 zl c6)).cell? ⟨q, 1, none⟩ = some (.slice (some ⟨gB, 0, none⟩) 64 64) := (World.cell?_setCell_other _ _ _ _ (fun e => H6.qb (by injection e with e1; exact e1.symm))).trans c16
        refine hK _ _ c17 ?_
        clear hK
        have hzx : z = (D.fs (i : Int)).1 ++ b := by rw [HX.out, HZ.out]
        have H7 := H6.put hi (v := .slice a6 zl c6) (b := z) (by rw [HZL.out]; exact own_base O6 (Nat.zero_le _)) (fun y hy => by
          have h1 := (O6.lt y hy).1
          refine ⟨by omega, by omega, fun e => by have := H5.yl _ H5.yf; rw [← e] at this; have := hYl gF H5.yf; omega, fun j u _ hu e => by have := HLOW.out j u hu y e; omega⟩) (fun e => HDZ.out (by rw [← hzx]; exact e))
        have S7 : DStep Y (fun y => Y y ∨ (Value.slice a6 zl c6).ownBlock = some y) w (w6.setCell ⟨gB, i, none⟩ (.slice a6 zl c6)) := by
          refine ⟨g6.os.trans S5.os, g6.tape.trans S5.tape, g6.output.trans S5.output, by rw [World.size_setCell]; exact Nat.le_trans S5.size g6.size, fun y hy hY => ?_, fun y hy => ?_⟩
          · refine (Below.heap_setCell _ _ _ _ (fun e => hY (by rw [e]; exact H6.yb))).trans ((g6.block y (Nat.lt_of_lt_of_le hy S5.size) (fun e => ?_)).trans (S5.block y hy hY))
            have h1 := hlo y e.symm
            have h2 := HSZ.out
            omega
          · rcases hy with hy | hy
            · exact .inl hy
            · refine .inr ?_
              have h1 := (O6.lt y hy).1
              have h2 := HSZ.out
              omega
        generalize w6.setCell ⟨gB, i, none⟩ (.slice a6 zl c6) = w7 at H7 S7 ⊢
        try simp only [Act.put, List.setIfInBounds_toArray, List.set_cons_zero, List.set_cons_succ]
        refine wpAnyH_done (by kernel_rfl) ?_ _
        rw [hzx] at H7
        have hoff : ((D.put (i : Int) ((D.fs (i : Int)).1 ++ b) (D.fs (i : Int)).2)).off = false := HO.out
        have H7' := H7
        rw [show D.off = (D.put (i : Int) ((D.fs (i : Int)).1 ++ b) (D.fs (i : Int)).2).off from rfl] at H7'
        have hst := mstep_any w7 (D := D.put (i : Int) ((D.fs (i : Int)).1 ++ b) (D.fs (i : Int)).2) H7' (put_plan HP.out _ _ _) HOK.out.left hoff
        rw [HPF.out, HPB.out] at hst
        have HST := Bx.mk hst
        have HYF := H7.yq
        clear hst H7 H7' H6 H5 O6 O5 R5 c16 c15 c17 hk6 hzx hci hfz g6 hYl hlo HLOW s6
        go_wp2_with fail
        refine HST.out.mono ?_
        rintro e w8 ⟨rfl, ⟨pl8, H8, P8⟩, Q8⟩
        have hok8 := fails_ok HOK.out
        rw [HPF.out] at hok8
        have S8 := S7.trans (Q8.toD HYF)
        obtain ⟨f1, f2⟩ := fails_fs D
        have hroom8 : (D.fails.put (i : Int) ((D.fs (i : Int)).1 ++ b) (D.fs (i : Int)).2).room = D.room := f2
        have M8 : MAt w8 q (fun y => Y y ∨ (Value.slice a6 zl c6).ownBlock = some y) (D.fails.put (i : Int) ((D.fs (i : Int)).1 ++ b) (D.fs (i : Int)).2) := by
          refine ⟨gB, gF, vs.set i (.slice a6 zl c6), pl8, (?_ : MoR _ _ _ _ _ _ _ _ _ _ _), P8, hok8⟩
          rw [hroom8]
          have e : (D.fails.put (i : Int) ((D.fs (i : Int)).1 ++ b) (D.fs (i : Int)).2).fs = (D.put (i : Int) ((D.fs (i : Int)).1 ++ b) (D.fs (i : Int)).2).fs := by unfold Dk.put; rw [f1]
          have e2 : durs (D.fails.put (i : Int) ((D.fs (i : Int)).1 ++ b) (D.fs (i : Int)).2) = durs (D.put (i : Int) ((D.fs (i : Int)).1 ++ b) (D.fs (i : Int)).2) := by unfold durs; rw [e]
          rw [e2, e]
          exact H8
        have HM8 := Bx.mk M8
        clear HST HOK HPF HPB M8 H8 P8 Q8 hok8 f1 f2 hroom8 S7 HDZ
        obtain ⟨fv, hfv⟩ : ∃ v, D.failsB = v := ⟨_, rfl⟩
        have hA2 := HA.out
        rw [hfv] at hA2 ⊢
        have HA := Bx.mk hA2
        clear hA2 hfv
        cases fv
        · go_wp2_with fail
          go_ret
          rw [HA.out]
          exact ⟨rfl, _, HM8.out, S8⟩
        · go_wp2_with fail
          go_ret
          rw [HA.out]
          exact ⟨rfl, _, HM8.out, S8⟩
    · rw [ho] at c3
      have hA : D.append (i : Int) b = (19, D) := by
        unfold Dk.append
        rw [if_neg (by simpa using hk), ho, if_pos rfl]
      have HA := Bx.mk hA
      clear hA ho
      go_wp2_with fail
      go_ret
      rw [HA.out]
      exact ⟨rfl, Y, ⟨gB, gF, vs, pl, HM.out, HP.out, HK.out⟩, DStep.refl _ _⟩
  · have hA : D.append k b = (1, D) := by
      unfold Dk.append
      rw [if_pos hk]
    have HA := Bx.mk hA
    clear hA
    by_cases hk0 : k < 0
    · go_wp2_with fail
      go_ret
      rw [HA.out]
      exact ⟨rfl, Y, ⟨gB, gF, vs, pl, HM.out, HP.out, HK.out⟩, DStep.refl _ _⟩
    · have hk1 : 63 < k := by omega
      go_wp2_with fail
      go_ret
      rw [HA.out]
      exact ⟨rfl, Y, ⟨gB, gF, vs, pl, HM.out, HP.out, HK.out⟩, DStep.refl _ _⟩
end Go.Proofs.YtpehnggglolnoaaGreat
