/- The law DiskPlan. -/
import Derived.Test.YtmofakcpldbbmaaMdU
import Derived.Deep.CutBlock
import Derived.Deep.CutRange
namespace Go.Proofs.Ytmofakcpldbbmaa
open Go.RowKit

theorem only_used {D : Dk} {k : Int} (h : Only D k) (hk : 0 ≤ k ∧ k < 64) : D.used = (D.fs k).1.length := by
  have h1 := D.used_put k [] 0 hk.1 hk.2
  have h2 : (D.put k [] 0).used = 0 := by
    have : (fun (i : Nat) => ((D.put k [] 0).fs (i : Int)).1.length) = fun _ => 0 := funext fun i => by
      by_cases e : (i : Int) = k
      · rw [e, put_fs0]; rfl
      · rw [put_fs1 _ _ _ e, h _ e]; rfl
    show sumL (fun (i : Nat) => ((D.put k [] 0).fs (i : Int)).1.length) 64 = 0
    rw [this]
    decide
  rw [h2, List.length_nil] at h1
  omega
/-- The disk after i steps of a plan. -/
structure PlanSt (E : Dk) (most i size : Nat) : Prop where
  bytes : (E.fs 1).1.length = size
  only : Only E 1
  room : E.room = 1000
  st : (i ≤ most ∧ E.off = false ∧ E.armed = true ∧ E.left = most - i) ∨ (most < i ∧ E.off = true)
  le : size ≤ i
theorem PlanSt.used {E : Dk} {most i size : Nat} (h : PlanSt E most i size) : E.used = size := by rw [only_used h.only (by decide), h.bytes]
theorem PlanSt.offB {E : Dk} {most i size : Nat} (h : PlanSt E most (i + 1) size) : E.off = !decide (i < most) := by
  rcases h.st with ⟨h1, h2, _⟩ | ⟨h1, h2⟩
  · rw [h2, decide_eq_true (by omega)]; rfl
  · rw [h2, decide_eq_false (by omega)]; rfl
theorem put_only {D : Dk} {k : Int} (h : Only D k) (b : List UInt8) (d : Nat) : Only (D.put k b d) k := fun j hj => by rw [put_fs1 _ _ _ hj]; exact h j hj
/-- A step of the plan. -/
theorem PlanSt.fails {E : Dk} {most i size : Nat} (h : PlanSt E most i size) (hi : i ≤ most) : E.failsB = decide (i = most) ∧ PlanSt E.fails most (i + 1) size ∧ E.off = false ∧ E.fails.fs = E.fs := by
  obtain ⟨hfs, hro⟩ := fails_fs E
  rcases h.st with ⟨h1, h2, h3, h4⟩ | ⟨h1, _⟩
  · have ho : Only E.fails 1 := fun j hj => by rw [hfs]; exact h.only j hj
    refine ⟨?_, ⟨by rw [hfs]; exact h.bytes, ho, by rw [hro]; exact h.room, ?_, by have := h.le; omega⟩, h2, hfs⟩
    · unfold Dk.failsB
      rw [h3, h4, Bool.true_and]
      exact decide_eq_decide.2 (by omega)
    · unfold Dk.fails
      rw [h3, if_pos rfl, h4]
      by_cases e : 0 < most - i
      · rw [if_pos e]
        exact .inl ⟨by omega, h2, rfl, by show most - i - 1 = most - (i + 1); omega⟩
      · rw [if_neg e]
        exact .inr ⟨by omega, rfl⟩
  · omega
theorem PlanSt.append {E : Dk} {most i size : Nat} (h : PlanSt E most i size) (hi : i ≤ 12) : (E.append 1 [5]).1 = (if i < most then 0 else 19) ∧ PlanSt (E.append 1 [5]).2 most (i + 1) (if i ≤ most then size + 1 else size) := by
  have hu := h.used
  by_cases hm : i ≤ most
  · obtain ⟨f1, f2, f3, f4⟩ := h.fails hm
    have e : E.append 1 [5] = ((if E.failsB then 19 else 0), E.fails.put 1 ((E.fs 1).1 ++ [5]) (E.fs 1).2) := by
      unfold Dk.append
      rw [if_neg (by omega), f3, if_neg (by simp), if_neg (by rw [h.room, hu]; have := h.le; simp; omega)]
    rw [e, f1, if_pos hm]
    refine ⟨?_, ?_, ?_, f2.room, f2.st, ?_⟩
    · by_cases e2 : i = most
      · rw [decide_eq_true e2, if_pos rfl, if_neg (by omega)]
      · rw [decide_eq_false e2, if_neg (by simp), if_pos (by omega)]
    · show ((E.fails.put 1 _ _).fs 1).1.length = _
      rw [put_fs0, List.length_append, h.bytes]
      rfl
    · exact put_only f2.only _ _
    · have := h.le; omega
  · have ho : E.off = true := by
      rcases h.st with ⟨h1, _⟩ | ⟨_, h2⟩
      · omega
      · exact h2
    have e : E.append 1 [5] = (19, E) := by
      unfold Dk.append
      rw [if_neg (by omega), ho, if_pos rfl]
    rw [e, if_neg hm, if_neg (by omega)]
    exact ⟨rfl, h.bytes, h.only, h.room, .inr ⟨by omega, ho⟩, by have := h.le; omega⟩
theorem PlanSt.sync {E : Dk} {most i size : Nat} (h : PlanSt E most i size) : E.sync.1 = (if i < most then 0 else 19) ∧ PlanSt E.sync.2 most (i + 1) size := by
  by_cases hm : i ≤ most
  · obtain ⟨f1, f2, f3, f4⟩ := h.fails hm
    unfold Dk.sync
    rw [f3, if_neg (by simp), f1]
    by_cases e2 : i = most
    · rw [decide_eq_true e2, if_pos rfl, if_neg (by omega)]
      exact ⟨rfl, f2⟩
    · rw [decide_eq_false e2, if_neg (by simp), if_pos (by omega)]
      exact ⟨rfl, f2.bytes, fun j hj => f2.only j hj, f2.room, f2.st, f2.le⟩
  · have ho : E.off = true := by
      rcases h.st with ⟨h1, _⟩ | ⟨_, h2⟩
      · omega
      · exact h2
    unfold Dk.sync
    rw [ho, if_pos rfl, if_neg (by omega)]
    exact ⟨rfl, h.bytes, h.only, h.room, .inr ⟨by omega, ho⟩, by have := h.le; omega⟩
theorem PlanSt.trunc {E : Dk} {most i size : Nat} (h : PlanSt E most i (size + 1)) : (E.trunc 1 (size : Int)).1 = (if i < most then 0 else 19) ∧ PlanSt (E.trunc 1 (size : Int)).2 most (i + 1) (if i < most then size else size + 1) := by
  have hc : ¬ (¬ (0 ≤ (1 : Int) ∧ (1 : Int) < 64) ∨ (size : Int) < 0 ∨ ((E.fs 1).1.length : Int) < (size : Int)) := by rw [h.bytes]; omega
  by_cases hm : i ≤ most
  · obtain ⟨f1, f2, f3, f4⟩ := h.fails hm
    unfold Dk.trunc
    rw [if_neg hc, f3, if_neg (by simp), f1]
    by_cases e2 : i = most
    · rw [decide_eq_true e2, if_pos rfl, if_neg (by omega), if_neg (by omega)]
      exact ⟨rfl, f2⟩
    · rw [decide_eq_false e2, if_neg (by simp), if_pos (by omega), if_pos (by omega)]
      refine ⟨rfl, ?_, put_only f2.only _ _, f2.room, f2.st, by have := h.le; omega⟩
      show ((E.fails.put 1 _ _).fs 1).1.length = _
      rw [put_fs0, List.length_take, h.bytes, Int.toNat_natCast]
      omega
  · have ho : E.off = true := by
      rcases h.st with ⟨h1, _⟩ | ⟨_, h2⟩
      · omega
      · exact h2
    unfold Dk.trunc
    rw [if_neg hc, ho, if_pos rfl, if_neg (by omega), if_neg (by omega)]
    exact ⟨rfl, h.bytes, h.only, h.room, .inr ⟨by omega, ho⟩, by have := h.le; omega⟩
theorem plan_crash {E : Dk} (hok : DOk E) {most i size : Nat} (h : PlanSt E most i size) (hs : size ≤ 1000) : ((E.crash [1000] (-1)).fs 1).1.length = size := by
  have hb := h.bytes
  have hd := hok.dur 1
  have ht : keptN [1000] 0 ((E.fs 1).1.length - (E.fs 1).2) = (E.fs 1).1.length - (E.fs 1).2 := by
    show min (1000 : Int).toNat _ = _
    have : (1000 : Int).toNat = 1000 := rfl
    omega
  rw [crash_one hok h.only (by decide) rfl rfl [1000] ht (-1), if_neg (by omega), List.length_take]
  omega
set_option maxRecDepth 20000 in
set_option maxHeartbeats 4000000 in
theorem law_DiskPlan (n : Int) (v : Value) (l : List Int) (w : World) (hn : -9223372036854775808 ≤ n ∧ n ≤ 9223372036854775807) (hv : Rv w v l.length (l.map (Value.int .i64))) (hx : ∀ x ∈ l, -9223372036854775808 ≤ x ∧ x ≤ 9223372036854775807) :
    Calls Try.prog 7 #[.int .i64 n, v] w fun e w' => e = .returned (.bool true) ∧ Below w.heap.size w w' := by
  obtain ⟨av, cv, rfl, _, _⟩ := hv.opened
  have HN := Bx.mk hn
  have HX := Bx.mk hx
  clear hn hx
  go_enter Try.func7, Try.ntmps7
  go_wp2_with fail
  refine (dnew w 1000 (by decide) (by decide)).mono ?_
  rintro e w1 ⟨p, X, rfl, D1, hX, B1⟩
  go_wp2_with fail
  refine (around_nat n 8 (by omega) HN.out.1 HN.out.2 (by omega) _).mono ?_
  rintro e w2 ⟨most, hm8, _, rfl, rfl⟩
  go_wp2_with fail
  refine (darm w1 (most : Int) (by omega) D1).mono ?_
  rintro e w2 ⟨rfl, D2, S2⟩
  have B2 := B1.trans (S2.toBelow B1.size hX)
  have P0 : PlanSt ((newD 1000).arm (most : Int)) most 0 0 := ⟨rfl, fun j _ => rfl, rfl, .inl ⟨Nat.zero_le _, rfl, (by show decide (0 ≤ (most : Int)) = true; exact decide_eq_true (by omega)), by show (most : Int).toNat = most - 0; omega⟩, Nat.le_refl _⟩
  obtain ⟨E0, hE0⟩ : ∃ E, (newD 1000).arm (most : Int) = E := ⟨_, rfl⟩
  rw [hE0] at D2 P0
  have HP0 := Bx.mk P0
  clear D1 B1 S2 P0 hE0
  go_upto_block 0 with fail
  go_cut [8] from 29 to 90 (fun u wx => ∃ (E : Dk) (X : Nat → Prop) (i size : Nat), u = .int .i64 (size : Int) ∧ i ≤ 12 ∧ DAt wx p X E ∧ Bx (PlanSt E most i size) ∧ (∀ b, X b → w.heap.size ≤ b) ∧ Below w.heap.size w wx)
  case first =>
    go_wp2_with fail
    go_loopw [8, 9] (fun s u W => ∃ (i size : Nat) (E : Dk) (X : Nat → Prop), u = .int .i64 (i : Int) ∧ s = .int .i64 (size : Int) ∧ i ≤ l.length ∧ i ≤ 12 ∧ DAt W p X E ∧ Bx (PlanSt E most i size) ∧ (∀ b, X b → w.heap.size ≤ b) ∧ Below w.heap.size w W) (fun _ u _ => 12 - (intOf u).toNat)
    case atStart => exact ⟨0, 0, E0, X, rfl, rfl, Nat.zero_le _, Nat.zero_le _, D2, HP0, hX, B2⟩
    case round =>
      clear D2 HP0 hX B2
      rename World => W
      obtain ⟨i, size, E, X, rfl, rfl, hil, hi12, D, HP, lX, B⟩ := hrel
      have hsz := HP.out.le
      by_cases hlt : i < l.length
      · by_cases hl12 : i < 12
        · obtain ⟨b2, off2, ha, hcw⟩ := rv_at hv (List.getElem?_eq_getElem hlt)
          subst ha
          have hcx := (B.cell (World.block_lt_of_cell? w _ hcw)).trans hcw
          have HX2 := Bx.mk (HX.out l[i] (List.getElem_mem hlt))
          obtain ⟨x, hx⟩ : ∃ x, l[i] = x := ⟨_, rfl⟩
          rw [hx] at hcx hcw HX2
          have hwW := B.size
          have hA := HP.out.append hi12
          have hS := HP.out.sync
          have HAP := Bx.mk hA
          have HSY := Bx.mk hS
          clear hx hcw hA hS
          have htri : i < most ∨ i = most ∨ most < i := by omega
          rcases htri with hm | hm | hm
          · have hmi : (i : Int) < (most : Int) := by omega
            have hge : ¬ (most : Int) ≤ (i : Int) := by omega
            have hle : (i : Int) ≤ (most : Int) := by omega
            have hA := HAP.out
            have hS := HSY.out
            rw [if_pos hm, if_pos (show i ≤ most by omega)] at hA
            rw [if_pos hm] at hS
            have HA := Bx.mk hA
            have HS := Bx.mk hS
            clear hA hS HAP HSY hm
            go_wp2_with fail
            refine (around_nat x 3 (by omega) HX2.out.1 HX2.out.2 (by omega) _).mono ?_
            rintro e w3 ⟨c, hc, _, rfl, rfl⟩
            have hc3 : c = 0 ∨ c = 1 ∨ c = 2 := by omega
            clear hc
            rcases hc3 with rfl | rfl | rfl
            · go_wp2_with fail
              have BA := (Below.refl W.heap.size W).alloc (Nat.le_refl _) (.cells #[.int .u8 5] 5)
              refine (dappend _ 1 _ [5] (D.later BA) (Rv.lit W [vB 5] 5 1 (by decide)) (off_new D.xl 1 1) (by decide)).mono ?_
              rw [HA.out.1]
              rintro e w4 ⟨rfl, X4, D4, S4⟩
              have B4 := B.trans ((BA.mono hwW).trans (S4.toBelow (by rw [World.size_alloc]; omega) lX))
              have l4 := S4.ge (B := w.heap.size) (by rw [World.size_alloc]; omega) lX
              clear BA
              have P4 := HA.out.2
              have hoff := P4.offB
              rw [decide_eq_true (show i < most by omega)] at hoff
              have hus := P4.used
              have HP4 := Bx.mk P4
              have HOF := Bx.mk hoff
              have HUS := Bx.mk hus
              clear P4 hoff hus S4 D
              go_wp2_with fail
              refine (don _ D4).mono ?_
              rw [HOF.out]
              rintro e w5 ⟨rfl, n5, rfl⟩
              have D5 := D4.later (belD (Below.refl w4.heap.size w4) n5)
              have B5 := belD B4 n5
              generalize w4.drewN n5 = w5 at D5 B5 ⊢
              clear D4 B4
              go_wp2_with fail
              refine (dused _ D5).mono ?_
              rw [HUS.out]
              rintro e w6 ⟨rfl, n6, rfl⟩
              have D6 := D5.later (belD (Below.refl w5.heap.size w5) n6)
              have B6 := belD B5 n6
              generalize w5.drewN n6 = w6 at D6 B6 ⊢
              clear D5 B5
              go_wp2_with fail
              go_roundw
              case rel => exact ⟨i + 1, size + 1, _, _, by simp, by simp, hlt, hl12, D6, HP4, l4, B6⟩
              case measure => simp [intOf]; omega
            · go_wp2_with fail
              refine (dsync W D).mono ?_
              rw [HS.out.1]
              rintro e w4 ⟨rfl, D4, S4⟩
              have B4 := B.trans (S4.toBelow hwW lX)
              have l4 := lX
              have P4 := HS.out.2
              have hoff := P4.offB
              rw [decide_eq_true (show i < most by omega)] at hoff
              have hus := P4.used
              have HP4 := Bx.mk P4
              have HOF := Bx.mk hoff
              have HUS := Bx.mk hus
              clear P4 hoff hus S4 D
              go_wp2_with fail
              refine (don _ D4).mono ?_
              rw [HOF.out]
              rintro e w5 ⟨rfl, n5, rfl⟩
              have D5 := D4.later (belD (Below.refl w4.heap.size w4) n5)
              have B5 := belD B4 n5
              generalize w4.drewN n5 = w5 at D5 B5 ⊢
              clear D4 B4
              go_wp2_with fail
              refine (dused _ D5).mono ?_
              rw [HUS.out]
              rintro e w6 ⟨rfl, n6, rfl⟩
              have D6 := D5.later (belD (Below.refl w5.heap.size w5) n6)
              have B6 := belD B5 n6
              generalize w5.drewN n6 = w6 at D6 B6 ⊢
              clear D5 B5
              go_wp2_with fail
              go_roundw
              case rel => exact ⟨i + 1, size, _, _, by simp, by simp, hlt, hl12, D6, HP4, l4, B6⟩
              case measure => simp [intOf]; omega
            · by_cases hz : 0 < size
              · obtain ⟨s, rfl⟩ : ∃ s, size = s + 1 := ⟨size - 1, by omega⟩
                have hzi : (0 : Int) < ((s + 1 : Nat) : Int) := by omega
                have hsub : wrap64 (((s + 1 : Nat) : Int) - 1) = (s : Int) := by unfold wrap64; omega
                have hT := HP.out.trunc
                rw [if_pos (show i < most by omega), if_pos (show i < most by omega)] at hT
                have HT := Bx.mk hT
                clear hT
                go_wp2_with fail
                refine (dtrunc W 1 (s : Int) (by omega) D).mono ?_
                rw [HT.out.1]
                rintro e w4 ⟨rfl, X4, D4, S4⟩
                have B4 := B.trans (S4.toBelow hwW lX)
                have l4 := S4.ge hwW lX
                clear hsub hzi
                have P4 := HT.out.2
                have hoff := P4.offB
                rw [decide_eq_true (show i < most by omega)] at hoff
                have hus := P4.used
                have HP4 := Bx.mk P4
                have HOF := Bx.mk hoff
                have HUS := Bx.mk hus
                clear P4 hoff hus S4 D
                go_wp2_with fail
                refine (don _ D4).mono ?_
                rw [HOF.out]
                rintro e w5 ⟨rfl, n5, rfl⟩
                have D5 := D4.later (belD (Below.refl w4.heap.size w4) n5)
                have B5 := belD B4 n5
                generalize w4.drewN n5 = w5 at D5 B5 ⊢
                clear D4 B4
                go_wp2_with fail
                refine (dused _ D5).mono ?_
                rw [HUS.out]
                rintro e w6 ⟨rfl, n6, rfl⟩
                have D6 := D5.later (belD (Below.refl w5.heap.size w5) n6)
                have B6 := belD B5 n6
                generalize w5.drewN n6 = w6 at D6 B6 ⊢
                clear D5 B5
                go_wp2_with fail
                go_roundw
                case rel => exact ⟨i + 1, s, _, _, by simp, by simp, hlt, hl12, D6, HP4, l4, B6⟩
                case measure => simp [intOf]; omega
              · obtain rfl : size = 0 := by omega
                go_wp2_with fail
                refine (dsync W D).mono ?_
                rw [HS.out.1]
                rintro e w4 ⟨rfl, D4, S4⟩
                have B4 := B.trans (S4.toBelow hwW lX)
                have l4 := lX
                have P4 := HS.out.2
                have hoff := P4.offB
                rw [decide_eq_true (show i < most by omega)] at hoff
                have hus := P4.used
                have HP4 := Bx.mk P4
                have HOF := Bx.mk hoff
                have HUS := Bx.mk hus
                clear P4 hoff hus S4 D
                go_wp2_with fail
                refine (don _ D4).mono ?_
                rw [HOF.out]
                rintro e w5 ⟨rfl, n5, rfl⟩
                have D5 := D4.later (belD (Below.refl w4.heap.size w4) n5)
                have B5 := belD B4 n5
                generalize w4.drewN n5 = w5 at D5 B5 ⊢
                clear D4 B4
                go_wp2_with fail
                refine (dused _ D5).mono ?_
                rw [HUS.out]
                rintro e w6 ⟨rfl, n6, rfl⟩
                have D6 := D5.later (belD (Below.refl w5.heap.size w5) n6)
                have B6 := belD B5 n6
                generalize w5.drewN n6 = w6 at D6 B6 ⊢
                clear D5 B5
                go_wp2_with fail
                go_roundw
                case rel => exact ⟨i + 1, 0, _, _, by simp, by simp, hlt, hl12, D6, HP4, l4, B6⟩
                case measure => simp [intOf]; omega
          · have hmi : ¬ (i : Int) < (most : Int) := by omega
            have hge : (most : Int) ≤ (i : Int) := by omega
            have hle : (i : Int) ≤ (most : Int) := by omega
            have hA := HAP.out
            have hS := HSY.out
            rw [if_neg (show ¬ i < most by omega), if_pos (show i ≤ most by omega)] at hA
            rw [if_neg (show ¬ i < most by omega)] at hS
            have HA := Bx.mk hA
            have HS := Bx.mk hS
            clear hA hS HAP HSY hm
            go_wp2_with fail
            refine (around_nat x 3 (by omega) HX2.out.1 HX2.out.2 (by omega) _).mono ?_
            rintro e w3 ⟨c, hc, _, rfl, rfl⟩
            have hc3 : c = 0 ∨ c = 1 ∨ c = 2 := by omega
            clear hc
            rcases hc3 with rfl | rfl | rfl
            · go_wp2_with fail
              have BA := (Below.refl W.heap.size W).alloc (Nat.le_refl _) (.cells #[.int .u8 5] 5)
              refine (dappend _ 1 _ [5] (D.later BA) (Rv.lit W [vB 5] 5 1 (by decide)) (off_new D.xl 1 1) (by decide)).mono ?_
              rw [HA.out.1]
              rintro e w4 ⟨rfl, X4, D4, S4⟩
              have B4 := B.trans ((BA.mono hwW).trans (S4.toBelow (by rw [World.size_alloc]; omega) lX))
              have l4 := S4.ge (B := w.heap.size) (by rw [World.size_alloc]; omega) lX
              clear BA
              have P4 := HA.out.2
              have hoff := P4.offB
              rw [decide_eq_false (show ¬ i < most by omega)] at hoff
              have hus := P4.used
              have HP4 := Bx.mk P4
              have HOF := Bx.mk hoff
              have HUS := Bx.mk hus
              clear P4 hoff hus S4 D
              go_wp2_with fail
              refine (don _ D4).mono ?_
              rw [HOF.out]
              rintro e w5 ⟨rfl, n5, rfl⟩
              have D5 := D4.later (belD (Below.refl w4.heap.size w4) n5)
              have B5 := belD B4 n5
              generalize w4.drewN n5 = w5 at D5 B5 ⊢
              clear D4 B4
              go_wp2_with fail
              refine (dused _ D5).mono ?_
              rw [HUS.out]
              rintro e w6 ⟨rfl, n6, rfl⟩
              have D6 := D5.later (belD (Below.refl w5.heap.size w5) n6)
              have B6 := belD B5 n6
              generalize w5.drewN n6 = w6 at D6 B6 ⊢
              clear D5 B5
              go_wp2_with fail
              go_roundw
              case rel => exact ⟨i + 1, size + 1, _, _, by simp, by simp, hlt, hl12, D6, HP4, l4, B6⟩
              case measure => simp [intOf]; omega
            · go_wp2_with fail
              refine (dsync W D).mono ?_
              rw [HS.out.1]
              rintro e w4 ⟨rfl, D4, S4⟩
              have B4 := B.trans (S4.toBelow hwW lX)
              have l4 := lX
              have P4 := HS.out.2
              have hoff := P4.offB
              rw [decide_eq_false (show ¬ i < most by omega)] at hoff
              have hus := P4.used
              have HP4 := Bx.mk P4
              have HOF := Bx.mk hoff
              have HUS := Bx.mk hus
              clear P4 hoff hus S4 D
              go_wp2_with fail
              refine (don _ D4).mono ?_
              rw [HOF.out]
              rintro e w5 ⟨rfl, n5, rfl⟩
              have D5 := D4.later (belD (Below.refl w4.heap.size w4) n5)
              have B5 := belD B4 n5
              generalize w4.drewN n5 = w5 at D5 B5 ⊢
              clear D4 B4
              go_wp2_with fail
              refine (dused _ D5).mono ?_
              rw [HUS.out]
              rintro e w6 ⟨rfl, n6, rfl⟩
              have D6 := D5.later (belD (Below.refl w5.heap.size w5) n6)
              have B6 := belD B5 n6
              generalize w5.drewN n6 = w6 at D6 B6 ⊢
              clear D5 B5
              go_wp2_with fail
              go_roundw
              case rel => exact ⟨i + 1, size, _, _, by simp, by simp, hlt, hl12, D6, HP4, l4, B6⟩
              case measure => simp [intOf]; omega
            · by_cases hz : 0 < size
              · obtain ⟨s, rfl⟩ : ∃ s, size = s + 1 := ⟨size - 1, by omega⟩
                have hzi : (0 : Int) < ((s + 1 : Nat) : Int) := by omega
                have hsub : wrap64 (((s + 1 : Nat) : Int) - 1) = (s : Int) := by unfold wrap64; omega
                have hT := HP.out.trunc
                rw [if_neg (show ¬ i < most by omega), if_neg (show ¬ i < most by omega)] at hT
                have HT := Bx.mk hT
                clear hT
                go_wp2_with fail
                refine (dtrunc W 1 (s : Int) (by omega) D).mono ?_
                rw [HT.out.1]
                rintro e w4 ⟨rfl, X4, D4, S4⟩
                have B4 := B.trans (S4.toBelow hwW lX)
                have l4 := S4.ge hwW lX
                clear hsub hzi
                have P4 := HT.out.2
                have hoff := P4.offB
                rw [decide_eq_false (show ¬ i < most by omega)] at hoff
                have hus := P4.used
                have HP4 := Bx.mk P4
                have HOF := Bx.mk hoff
                have HUS := Bx.mk hus
                clear P4 hoff hus S4 D
                go_wp2_with fail
                refine (don _ D4).mono ?_
                rw [HOF.out]
                rintro e w5 ⟨rfl, n5, rfl⟩
                have D5 := D4.later (belD (Below.refl w4.heap.size w4) n5)
                have B5 := belD B4 n5
                generalize w4.drewN n5 = w5 at D5 B5 ⊢
                clear D4 B4
                go_wp2_with fail
                refine (dused _ D5).mono ?_
                rw [HUS.out]
                rintro e w6 ⟨rfl, n6, rfl⟩
                have D6 := D5.later (belD (Below.refl w5.heap.size w5) n6)
                have B6 := belD B5 n6
                generalize w5.drewN n6 = w6 at D6 B6 ⊢
                clear D5 B5
                go_wp2_with fail
                go_roundw
                case rel => exact ⟨i + 1, s + 1, _, _, by simp, by simp, hlt, hl12, D6, HP4, l4, B6⟩
                case measure => simp [intOf]; omega
              · obtain rfl : size = 0 := by omega
                go_wp2_with fail
                refine (dsync W D).mono ?_
                rw [HS.out.1]
                rintro e w4 ⟨rfl, D4, S4⟩
                have B4 := B.trans (S4.toBelow hwW lX)
                have l4 := lX
                have P4 := HS.out.2
                have hoff := P4.offB
                rw [decide_eq_false (show ¬ i < most by omega)] at hoff
                have hus := P4.used
                have HP4 := Bx.mk P4
                have HOF := Bx.mk hoff
                have HUS := Bx.mk hus
                clear P4 hoff hus S4 D
                go_wp2_with fail
                refine (don _ D4).mono ?_
                rw [HOF.out]
                rintro e w5 ⟨rfl, n5, rfl⟩
                have D5 := D4.later (belD (Below.refl w4.heap.size w4) n5)
                have B5 := belD B4 n5
                generalize w4.drewN n5 = w5 at D5 B5 ⊢
                clear D4 B4
                go_wp2_with fail
                refine (dused _ D5).mono ?_
                rw [HUS.out]
                rintro e w6 ⟨rfl, n6, rfl⟩
                have D6 := D5.later (belD (Below.refl w5.heap.size w5) n6)
                have B6 := belD B5 n6
                generalize w5.drewN n6 = w6 at D6 B6 ⊢
                clear D5 B5
                go_wp2_with fail
                go_roundw
                case rel => exact ⟨i + 1, 0, _, _, by simp, by simp, hlt, hl12, D6, HP4, l4, B6⟩
                case measure => simp [intOf]; omega
          · have hmi : ¬ (i : Int) < (most : Int) := by omega
            have hge : (most : Int) ≤ (i : Int) := by omega
            have hle : ¬ (i : Int) ≤ (most : Int) := by omega
            have hA := HAP.out
            have hS := HSY.out
            rw [if_neg (show ¬ i < most by omega), if_neg (show ¬ i ≤ most by omega)] at hA
            rw [if_neg (show ¬ i < most by omega)] at hS
            have HA := Bx.mk hA
            have HS := Bx.mk hS
            clear hA hS HAP HSY hm
            go_wp2_with fail
            refine (around_nat x 3 (by omega) HX2.out.1 HX2.out.2 (by omega) _).mono ?_
            rintro e w3 ⟨c, hc, _, rfl, rfl⟩
            have hc3 : c = 0 ∨ c = 1 ∨ c = 2 := by omega
            clear hc
            rcases hc3 with rfl | rfl | rfl
            · go_wp2_with fail
              have BA := (Below.refl W.heap.size W).alloc (Nat.le_refl _) (.cells #[.int .u8 5] 5)
              refine (dappend _ 1 _ [5] (D.later BA) (Rv.lit W [vB 5] 5 1 (by decide)) (off_new D.xl 1 1) (by decide)).mono ?_
              rw [HA.out.1]
              rintro e w4 ⟨rfl, X4, D4, S4⟩
              have B4 := B.trans ((BA.mono hwW).trans (S4.toBelow (by rw [World.size_alloc]; omega) lX))
              have l4 := S4.ge (B := w.heap.size) (by rw [World.size_alloc]; omega) lX
              clear BA
              have P4 := HA.out.2
              have hoff := P4.offB
              rw [decide_eq_false (show ¬ i < most by omega)] at hoff
              have hus := P4.used
              have HP4 := Bx.mk P4
              have HOF := Bx.mk hoff
              have HUS := Bx.mk hus
              clear P4 hoff hus S4 D
              go_wp2_with fail
              refine (don _ D4).mono ?_
              rw [HOF.out]
              rintro e w5 ⟨rfl, n5, rfl⟩
              have D5 := D4.later (belD (Below.refl w4.heap.size w4) n5)
              have B5 := belD B4 n5
              generalize w4.drewN n5 = w5 at D5 B5 ⊢
              clear D4 B4
              go_wp2_with fail
              refine (dused _ D5).mono ?_
              rw [HUS.out]
              rintro e w6 ⟨rfl, n6, rfl⟩
              have D6 := D5.later (belD (Below.refl w5.heap.size w5) n6)
              have B6 := belD B5 n6
              generalize w5.drewN n6 = w6 at D6 B6 ⊢
              clear D5 B5
              go_wp2_with fail
              go_roundw
              case rel => exact ⟨i + 1, size, _, _, by simp, by simp, hlt, hl12, D6, HP4, l4, B6⟩
              case measure => simp [intOf]; omega
            · go_wp2_with fail
              refine (dsync W D).mono ?_
              rw [HS.out.1]
              rintro e w4 ⟨rfl, D4, S4⟩
              have B4 := B.trans (S4.toBelow hwW lX)
              have l4 := lX
              have P4 := HS.out.2
              have hoff := P4.offB
              rw [decide_eq_false (show ¬ i < most by omega)] at hoff
              have hus := P4.used
              have HP4 := Bx.mk P4
              have HOF := Bx.mk hoff
              have HUS := Bx.mk hus
              clear P4 hoff hus S4 D
              go_wp2_with fail
              refine (don _ D4).mono ?_
              rw [HOF.out]
              rintro e w5 ⟨rfl, n5, rfl⟩
              have D5 := D4.later (belD (Below.refl w4.heap.size w4) n5)
              have B5 := belD B4 n5
              generalize w4.drewN n5 = w5 at D5 B5 ⊢
              clear D4 B4
              go_wp2_with fail
              refine (dused _ D5).mono ?_
              rw [HUS.out]
              rintro e w6 ⟨rfl, n6, rfl⟩
              have D6 := D5.later (belD (Below.refl w5.heap.size w5) n6)
              have B6 := belD B5 n6
              generalize w5.drewN n6 = w6 at D6 B6 ⊢
              clear D5 B5
              go_wp2_with fail
              go_roundw
              case rel => exact ⟨i + 1, size, _, _, by simp, by simp, hlt, hl12, D6, HP4, l4, B6⟩
              case measure => simp [intOf]; omega
            · by_cases hz : 0 < size
              · obtain ⟨s, rfl⟩ : ∃ s, size = s + 1 := ⟨size - 1, by omega⟩
                have hzi : (0 : Int) < ((s + 1 : Nat) : Int) := by omega
                have hsub : wrap64 (((s + 1 : Nat) : Int) - 1) = (s : Int) := by unfold wrap64; omega
                have hT := HP.out.trunc
                rw [if_neg (show ¬ i < most by omega), if_neg (show ¬ i < most by omega)] at hT
                have HT := Bx.mk hT
                clear hT
                go_wp2_with fail
                refine (dtrunc W 1 (s : Int) (by omega) D).mono ?_
                rw [HT.out.1]
                rintro e w4 ⟨rfl, X4, D4, S4⟩
                have B4 := B.trans (S4.toBelow hwW lX)
                have l4 := S4.ge hwW lX
                clear hsub hzi
                have P4 := HT.out.2
                have hoff := P4.offB
                rw [decide_eq_false (show ¬ i < most by omega)] at hoff
                have hus := P4.used
                have HP4 := Bx.mk P4
                have HOF := Bx.mk hoff
                have HUS := Bx.mk hus
                clear P4 hoff hus S4 D
                go_wp2_with fail
                refine (don _ D4).mono ?_
                rw [HOF.out]
                rintro e w5 ⟨rfl, n5, rfl⟩
                have D5 := D4.later (belD (Below.refl w4.heap.size w4) n5)
                have B5 := belD B4 n5
                generalize w4.drewN n5 = w5 at D5 B5 ⊢
                clear D4 B4
                go_wp2_with fail
                refine (dused _ D5).mono ?_
                rw [HUS.out]
                rintro e w6 ⟨rfl, n6, rfl⟩
                have D6 := D5.later (belD (Below.refl w5.heap.size w5) n6)
                have B6 := belD B5 n6
                generalize w5.drewN n6 = w6 at D6 B6 ⊢
                clear D5 B5
                go_wp2_with fail
                go_roundw
                case rel => exact ⟨i + 1, s + 1, _, _, by simp, by simp, hlt, hl12, D6, HP4, l4, B6⟩
                case measure => simp [intOf]; omega
              · obtain rfl : size = 0 := by omega
                go_wp2_with fail
                refine (dsync W D).mono ?_
                rw [HS.out.1]
                rintro e w4 ⟨rfl, D4, S4⟩
                have B4 := B.trans (S4.toBelow hwW lX)
                have l4 := lX
                have P4 := HS.out.2
                have hoff := P4.offB
                rw [decide_eq_false (show ¬ i < most by omega)] at hoff
                have hus := P4.used
                have HP4 := Bx.mk P4
                have HOF := Bx.mk hoff
                have HUS := Bx.mk hus
                clear P4 hoff hus S4 D
                go_wp2_with fail
                refine (don _ D4).mono ?_
                rw [HOF.out]
                rintro e w5 ⟨rfl, n5, rfl⟩
                have D5 := D4.later (belD (Below.refl w4.heap.size w4) n5)
                have B5 := belD B4 n5
                generalize w4.drewN n5 = w5 at D5 B5 ⊢
                clear D4 B4
                go_wp2_with fail
                refine (dused _ D5).mono ?_
                rw [HUS.out]
                rintro e w6 ⟨rfl, n6, rfl⟩
                have D6 := D5.later (belD (Below.refl w5.heap.size w5) n6)
                have B6 := belD B5 n6
                generalize w5.drewN n6 = w6 at D6 B6 ⊢
                clear D5 B5
                go_wp2_with fail
                go_roundw
                case rel => exact ⟨i + 1, 0, _, _, by simp, by simp, hlt, hl12, D6, HP4, l4, B6⟩
                case measure => simp [intOf]; omega
        · go_wp2_with fail
          go_meet
          exact ⟨E, X, i, size, rfl, hi12, D, HP, lX, B⟩
      · go_wp2_with fail
        go_meet
        exact ⟨E, X, i, size, rfl, hi12, D, HP, lX, B⟩
  case rest =>
  clear D2 HP0 hX B2
  rename World => w3
  obtain ⟨E, X, i, size, rfl, hi12, D3, HP, lX, B3⟩ := hcut
  have hsz := HP.out.le
  have hcl := plan_crash D3.ok HP.out (by omega)
  have hco : (E.crash [1000] (-1)).off = false := rfl
  have hcs : (E.crash [1000] (-1)).sync = (0, (E.crash [1000] (-1)).harden) := rfl
  obtain ⟨G, hG⟩ : ∃ G, E.crash [1000] (-1) = G := ⟨_, rfl⟩
  rw [hG] at hcl hco hcs
  have HG := Bx.mk hG
  have HCL := Bx.mk hcl
  have HCO := Bx.mk hco
  have HCS := Bx.mk hcs
  have HRD := Bx.mk (read_on G 1 (by decide) hco)
  have hw3 := B3.size
  clear hcl hco hcs hG
  go_wp2_with fail
  have BA := (Below.refl w3.heap.size w3).alloc (Nat.le_refl _) (.cells #[.int .i64 1000] 3)
  refine (dcrash _ [1000] _ (-1) (by decide) (by decide) (D3.later BA) (Rv.lit w3 [.int .i64 1000] 3 1 (by decide)) (off_new D3.xl 1 1)).mono ?_
  rw [HG.out]
  rintro e w4 ⟨rfl, D4, S4⟩
  have B4 := B3.trans ((BA.mono hw3).trans (S4.toBelow (by rw [World.size_alloc]; omega) lX))
  clear D3 B3 BA S4
  go_wp2_with fail
  refine (dread w4 1 D4).mono ?_
  rw [HRD.out]
  rintro e w5 ⟨v5, rfl, O5, B5⟩
  replace O5 : w5.ownsRow w4.heap.size 5 1 v5 (G.fs 1).1.length ((G.fs 1).1.map vB) := O5
  rw [HCL.out] at O5
  obtain ⟨a5, c5, rfl⟩ := own_isSlice O5
  have D5 := D4.later B5
  have B5' := bel B4 B5
  clear D4 B4 B5 O5
  go_wp2_with fail
  refine (don _ D5).mono ?_
  rw [HCO.out]
  rintro e w6 ⟨rfl, n6, rfl⟩
  have D6 := D5.later (belD (Below.refl w5.heap.size w5) n6)
  have B6 := belD B5' n6
  generalize w5.drewN n6 = w6 at D6 B6 ⊢
  clear D5 B5'
  go_wp2_with fail
  refine (dsync w6 D6).mono ?_
  rw [HCS.out]
  rintro e w7 ⟨rfl, D7, S7⟩
  have B7 := B6.trans (S7.toBelow B6.size lX)
  clear D6 B6 S7 D7
  go_wp2_with fail
  refine (lives30_any _).mono ?_
  rintro e w8 ⟨rfl, B8⟩
  have B8' := bel B7 B8
  go_wp2_with fail
  go_ret
  exact ⟨rfl, B8'⟩
end Go.Proofs.Ytmofakcpldbbmaa
