/- The law DiskTexts. -/
import Derived.Test.YtmofakcpldbbmaaDoorDskT
import Derived.Test.YtmofakcpldbbmaaDoorTxtR1
namespace Go.Proofs.YtmofakcpldbbmaaDoor
open Go.RowKit

theorem tail_rv {w : World} {ao : Option Addr} {n cap : Nat} {us : List Value} (h : Rv w (.slice ao n cap) n us) (hu : us.length = n) (p : Nat) (hp : p ≤ n) :
    ∀ A m C, A = (if cap = p then ao else ao.map (·.add p)) → m = n - p → C = cap - p → Rv w (.slice A m C) (n - p) (us.drop p) := by
  intro A m C hA hm hC
  rw [hA, hm, hC]
  obtain ⟨a', c', e1, _, e3⟩ := h.sliced 1 p n hp (Nat.le_refl _)
  cases e1
  have ht : (us.drop p).take (n - p) = us.drop p := List.take_of_length_le (by rw [List.length_drop]; omega)
  simp only [Nat.mul_one] at e3
  rwa [ht] at e3
theorem off_cut {X : Nat → Prop} {a : Option Addr} {n m c : Nat} (h : Off (.slice a n c) X) : Off (.slice a m c) X := by
  intro b hb
  cases a with
  | none => cases hb
  | some q => exact h b hb
theorem tail_off {X : Nat → Prop} {ao : Option Addr} {n cap : Nat} (h : Off (.slice ao n cap) X) (p : Nat) : ∀ A m C, A = (if cap = p then ao else ao.map (·.add p)) → Off (.slice A m C) X := by
  intro A m C hA g hg
  subst hA
  refine h g ?_
  cases ao with
  | none => split at hg <;> simp [Value.ownBlock] at hg
  | some a =>
    split at hg
    · exact hg
    · simp only [Option.map_some, Value.ownBlock, Option.some.injEq] at hg ⊢
      rw [← hg]
      unfold Addr.add
      split <;> rfl

set_option linter.unusedSimpArgs false in
set_option maxRecDepth 20000 in
set_option maxHeartbeats 1000000 in
theorem law_DiskTexts (v kv : Value) (l ks : List Int) (cut flip : Int) (w : World) (hv : Rv w v l.length (l.map (Value.int .i64))) (hx : ∀ x ∈ l, -9223372036854775808 ≤ x ∧ x ≤ 9223372036854775807) (hc : -9223372036854775808 ≤ cut ∧ cut ≤ 9223372036854775807)
    (hk : Rv w kv ks.length (ks.map (Value.int .i64))) (hz : ∀ x ∈ ks, -9223372036854775808 ≤ x ∧ x ≤ 9223372036854775807) (hf : -9223372036854775808 ≤ flip ∧ flip ≤ 9223372036854775807) (hF : FM w) :
    Calls Tryd.prog 3 #[v, .int .i64 cut, kv, .int .i64 flip] w (RetTB w) := by
  have hw0 : 0 < w.heap.size := hF.lt
  obtain ⟨av, cv, rfl, _, _⟩ := hv.opened
  obtain ⟨ak, ck, rfl, _, _⟩ := hk.opened
  have HX := Bx.mk hx
  have HC := Bx.mk hc
  have HZ := Bx.mk hz
  have HP := Bx.mk hf
  clear hx hc hz hf
  go_enter Tryd.func3, Tryd.ntmps3
  go_wp2_with fail
  refine (dnew w 20000 (by decide) (by decide)).mono ?_
  rintro e w1 ⟨p, X, rfl, D1, lX, B1⟩
  go_wp2_with fail
  refine (text_any _ l 30 true w1 (hv.below B1) HX.out (by omega)).mono ?_
  rintro e w2 ⟨v2, rfl, M2⟩
  obtain ⟨t, ht⟩ : ∃ t, textM l 30 true = t := ⟨_, rfl⟩
  have tl := textM_le l 30 true
  have ta := text_all l 30 true
  rw [ht] at M2 tl ta
  have O2 := M2.1
  rw [List.length_map] at O2
  have D2 := D1.later M2.2
  have B2 := bel B1 M2.2
  have oT : Off v2 X := Off.ge O2 D1.xl
  obtain ⟨a2, c2, rfl⟩ := own_isSlice O2
  obtain ⟨x, hx⟩ : ∃ x, encM t true = x := ⟨_, rfl⟩
  have xl := encM_len t true
  have hdec := fun v w1 h1 h2 => decode_enc v t true w1 h1 (by omega) ta h2
  have hen := encode_ok (.slice a2 t.length c2) t true w2 (Rv.of_own O2) (by omega) ta (hF.below B2 hw0)
  rw [hx] at xl hdec hen
  have HDEC := Bx.mk hdec
  have HEN := Bx.mk hen
  clear hdec hen ta ht hx M2 D1 B1 HX hv
  go_wp2_with fail
  refine HEN.out.mono ?_
  rintro e w3 ⟨v3, rfl, M3⟩
  have O3 := M3.1
  rw [List.length_map] at O3
  have D3 := D2.later M3.2
  have B3 := bel B2 M3.2
  have oX : Off v3 X := Off.ge O3 D2.xl
  have O2 := own_below O2 M3.2
  obtain ⟨a3, c3, rfl⟩ := own_isSlice O3
  have hc3 : x.length ≤ c3 := by
    obtain ⟨_, _, he, h, _⟩ := Rv.of_own O3
    cases he
    omega
  obtain ⟨k, hk1, hkl⟩ : ∃ k : Nat, around cut ((x.length : Int) + 1) = (k : Int) ∧ k ≤ x.length := by
    have h1 := around_lo cut ((x.length : Int) + 1) (by omega)
    have h2 := around_hi cut ((x.length : Int) + 1) (by omega)
    exact ⟨(around cut ((x.length : Int) + 1)).toNat, by omega, by omega⟩
  have har := fun w1 => around_any cut ((x.length : Int) + 1) (by omega) HC.out.1 HC.out.2 (by omega) w1
  rw [hk1] at har
  have W0 := Bx.mk (wrote_new x)
  obtain ⟨D, hD⟩ : ∃ D, newD 20000 = D := ⟨_, rfl⟩
  rw [hD] at D3 W0
  have hkc : (k : Int) ≤ (c3 : Int) := by omega
  have hkx : (k : Int) ≤ (x.length : Int) := by omega
  have xl64 : (x.length : Int) ≤ 120 := by omega
  have xl120 : x.length ≤ 120 := by omega
  obtain ⟨nx, hnx⟩ : ∃ n, x.length = n := ⟨_, rfl⟩
  rw [hnx] at O3 oX hc3 hkl har hkx xl64 xl120 ⊢
  have HAR := Bx.mk har
  have HNX := Bx.mk hnx
  have hw1 : wrap64 ((nx : Int) + 1) = (nx : Int) + 1 := by unfold wrap64; omega
  clear har hk1 hD HC HEN M3 D2 B2 xl hnx
  go_wp2_with fail
  try rw [hw1]
  refine (HAR.out _).mono ?_
  rintro e w4 ⟨rfl, rfl⟩
  clear HAR hw1
  go_wp2_with fail
  go_loopw [15] (fun uu W => ∃ (n i : Nat) (D : Dk) (X : Nat → Prop), uu = .int .i64 (n : Int) ∧ Bx (n = 5 + i) ∧ n ≤ 7 ∧ DAt W p X D ∧ Bx (Wrote x i D) ∧ W.ownsRow w1.heap.size 3 1 (.slice a2 t.length c2) t.length (t.map (Value.int .i64)) ∧ Off (.slice a2 t.length c2) X ∧ W.ownsRow w2.heap.size 5 1 (.slice a3 nx c3) nx (x.map vB) ∧ Off (.slice a3 nx c3) X ∧ (∀ b, X b → w.heap.size ≤ b) ∧ Below w.heap.size w W) (fun uu _ => 7 - (intOf uu).toNat)
  case atStart => exact ⟨5, 0, D, X, rfl, ⟨rfl⟩, by omega, D3, W0, O2, oT, O3, oX, lX, B3⟩
  case round =>
    clear D3 W0 O2 oT O3 oX lX B3
    rename World => W
    obtain ⟨n, i, E, X, rfl, HN, hi, D3, W0, O2, oT, O3, oX, lX, B3⟩ := hrel
    by_cases hlt : n < 7
    · have hkey : (5 + (i : Int)) = (n : Int) := by have := HN.out; omega
      have htk : (x.take k).length = k := by have := HNX.out; rw [List.length_take]; omega
      have hdk : (x.drop k).length = nx - k := by have := HNX.out; rw [List.length_drop]; omega
      have RK : Rv W (.slice a3 k c3) (x.take k).length ((x.take k).map vB) := by rw [htk]; exact rv_cut (Rv.of_own O3) k hkl
      have oK : Off (.slice a3 k c3) X := off_cut oX
      obtain ⟨D5s, hD5⟩ : ∃ F, E.append (n : Int) (x.take k) = F := ⟨_, rfl⟩
      obtain ⟨D6s, hD6⟩ : ∃ F, D5s.2.append (n : Int) (x.drop k) = F := ⟨_, rfl⟩
      have w6 := W0.out.step (by have := HN.out; omega) (by rw [HNX.out]; exact xl120) (by rw [HNX.out]; exact hkl)
      rw [hkey, hD5, hD6] at w6
      have W6 := Bx.mk w6
      have h5 := dappend W (n : Int) _ (x.take k) D3 RK oK (by rw [htk]; omega)
      rw [hD5] at h5
      have h6 := fun w5 X5 bv h1 h2 h3 => dappend w5 (n : Int) bv (x.drop k) (D := D5s.2) (p := p) (X := X5) h1 h2 h3 (by rw [hdk]; omega)
      rw [hD6] at h6
      have H5 := Bx.mk h5
      have H6 := Bx.mk h6
      have HNXD := Bx.mk hdk
      obtain ⟨xd, hxd⟩ : ∃ d, x.drop k = d := ⟨_, rfl⟩
      have HXD := Bx.mk hxd
      clear w6 hkey h5 h6 hD5 hD6 htk RK oK hdk hxd
      by_cases hck : c3 = k
      all_goals
        try subst hck
        go_wp2_with fail
        refine H5.out.mono ?_
        rintro e w5 ⟨rfl, X5, D5, S5⟩
        obtain ⟨r5, hr5⟩ : ∃ r, D5s.1 = r := ⟨_, rfl⟩
        rw [hr5]
        have P2 := own_step O2 S5 oT
        have P3 := own_step O3 S5 oX
        have qT := oT.step S5 O2
        have qX := oX.step S5 O3
        have B5 := B3.trans (S5.toBelow B3.size lX)
        have l5 := S5.ge B3.size lX
        clear hr5 S5 O2 O3 oT oX B3 lX D3 H5
        go_wp2_with fail
        refine (H6.out _ X5 _ D5 (by rw [HNXD.out, List.map_drop]; exact tail_rv (Rv.of_own P3) (by rw [List.length_map]; exact HNX.out) _ hkl _ _ _ (by first | exact (if_pos rfl).symm | exact (if_neg hck).symm | simp) (by first | rfl | omega) (by first | rfl | omega)) (tail_off qX _ _ _ _ (by first | exact (if_pos rfl).symm | exact (if_neg hck).symm | simp))).mono ?_
        rintro e w6 ⟨rfl, X6, D6, S6⟩
        obtain ⟨r6, hr6⟩ : ∃ r, D6s.1 = r := ⟨_, rfl⟩
        rw [hr6]
        have O2 := own_step P2 S6 qT
        have O3 := own_step P3 S6 qX
        have oT := qT.step S6 P2
        have oX := qX.step S6 P3
        have B6 := B5.trans (S6.toBelow B5.size l5)
        have l6 := S6.ge B5.size l5
        clear hr6 S6 P2 P3 qT qX B5 l5 D5 H6
        go_wp2_with fail
        go_roundw
        case rel => exact ⟨n + 1, i + 1, D6s.2, X6, by simp, ⟨by have := HN.out; omega⟩, by omega, D6, W6, O2, oT, O3, oX, l6, B6⟩
        case measure => simp [intOf]; omega
    · obtain rfl : i = 2 := by have := HN.out; omega
      go_wp2_with fail
      refine (dsync W D3).mono ?_
      rintro e w5 ⟨rfl, D5, S5⟩
      obtain ⟨r5, hr5⟩ : ∃ r, E.sync.1 = r := ⟨_, rfl⟩
      rw [hr5]
      have O2 := own_step O2 S5 oT
      have B5 := B3.trans (S5.toBelow B3.size lX)
      have hok1 := D3.ok
      clear hr5 S5 B3 D3 O3 oX
      go_wp2_with fail
      have BA := (Below.refl w5.heap.size w5).alloc (Nat.le_refl _) (.cells #[.int .u8 9, .int .u8 9, .int .u8 9] 5)
      refine (dappend _ 6 _ [9, 9, 9] (D5.later BA) (Rv.lit w5 [vB 9, vB 9, vB 9] 5 3 (by decide)) (off_new D5.xl 3 3) (by decide)).mono ?_
      rintro e w6 ⟨rfl, X6, D6, S6⟩
      obtain ⟨r6, hr6⟩ : ∃ r, (E.sync.2.append 6 [9, 9, 9]).1 = r := ⟨_, rfl⟩
      rw [hr6]
      have oT6 := oT.step S6 (own_below O2 BA)
      have O2 := own_step (own_below O2 BA) S6 oT
      have B6 := B5.trans ((BA.mono B5.size).trans (S6.toBelow (by rw [World.size_alloc]; have := B5.size; omega) lX))
      have l6 := S6.ge (B := w.heap.size) (by rw [World.size_alloc]; have := B5.size; omega) lX
      clear hr6 S6 B5 D5 BA oT lX
      go_wp2_with fail
      have BA := (Below.refl w6.heap.size w6).alloc (Nat.le_refl _) (.cells #[.int .u8 1] 5)
      refine (dappend _ 8 _ [1] (D6.later BA) (Rv.lit w6 [vB 1] 5 1 (by decide)) (off_new D6.xl 1 1) (by decide)).mono ?_
      rintro e w7 ⟨rfl, X7, D7, S7⟩
      obtain ⟨r7, hr7⟩ : ∃ r, ((E.sync.2.append 6 [9, 9, 9]).2.append 8 [1]).1 = r := ⟨_, rfl⟩
      rw [hr7]
      have oT7 := oT6.step S7 (own_below O2 BA)
      have O2 := own_step (own_below O2 BA) S7 oT6
      have B7 := B6.trans ((BA.mono B6.size).trans (S7.toBelow (by rw [World.size_alloc]; have := B6.size; omega) l6))
      have l7 := S7.ge (B := w.heap.size) (by rw [World.size_alloc]; have := B6.size; omega) l6
      clear hr7 S7 B6 D6 BA oT6 l6
      obtain ⟨ka, hka⟩ : ∃ k, ks.take 3 = k := ⟨_, rfl⟩
      have hend := fun i hi => wrote_end W0.out hok1 [9, 9, 9] [1] ka flip D7.ok i hi
      obtain ⟨G, hG⟩ : ∃ G, ((E.sync.2.append 6 [9, 9, 9]).2.append 8 [1]).2 = G := ⟨_, rfl⟩
      rw [hG] at hend D7
      rw [HNX.out] at hend
      have HEND := Bx.mk hend
      clear hend hG hok1 W0
      go_wp2_with fail
      refine (ints_any _ ks 3 (by decide) w7 (hk.below B7)).mono ?_
      rintro e w8 ⟨v8, rfl, M8⟩
      rw [hka] at M8
      have O8 := M8.1
      rw [List.length_map] at O8
      have D8 := D7.later M8.2
      have O2 := own_below O2 M8.2
      have B8 := bel B7 M8.2
      have o8 : Off v8 X7 := Off.ge O8 D7.xl
      have HK64 : Bx (∀ x ∈ ka, x ≤ 9223372036854775807) := ⟨fun x hx => by rw [← hka] at hx; exact (HZ.out x (List.mem_of_mem_take hx)).2⟩
      obtain ⟨a8, c8, rfl⟩ := own_isSlice O8
      clear M8 D7 B7 hka
      go_wp2_with fail
      refine (dcrash w8 ka _ flip HP.out.2 HK64.out D8 (Rv.of_own O8) o8).mono ?_
      rintro e w9 ⟨rfl, D9, S9⟩
      have O2 := own_step O2 S9 oT7
      have B9 := B8.trans (S9.toBelow B8.size l7)
      obtain ⟨C, hC⟩ : ∃ C, G.crash ka flip = C := ⟨_, rfl⟩
      have HE := HEND.out
      rw [hC] at D9 HE
      have HEND := Bx.mk HE
      clear HE hC S9 B8 D8 O8 o8 oT7 l7
      go_wp2_with fail
      go_loopw [16] (fun uu W => ∃ (n i : Nat), uu = .int .i64 (n : Int) ∧ Bx (n = 5 + i) ∧ n ≤ 7 ∧ DAt W p X7 C ∧ W.ownsRow w1.heap.size 3 1 (.slice a2 t.length c2) t.length (t.map (Value.int .i64)) ∧ Below w.heap.size w W) (fun uu _ => 7 - (intOf uu).toNat)
      case atStart => exact ⟨5, 0, rfl, ⟨rfl⟩, by omega, D9, O2, B9⟩
      case round =>
        clear D9 O2 B9
        rename World => W2
        obtain ⟨n, i, rfl, HN, hi, D9, O9, B9⟩ := hrel
        by_cases hlt : n < 7
        · obtain ⟨e1, e2, e3, e4⟩ := HEND.out i (by have := HN.out; omega)
          have hkey : (5 + (i : Int)) = (n : Int) := by have := HN.out; omega
          rw [hkey] at e1 e2 e3
          have hrd : C.read (n : Int) = ((C.fs (n : Int)).1, 0) := by unfold Dk.read; rw [if_neg (by have := HN.out; omega), e4]; rfl
          obtain ⟨y, hy⟩ : ∃ y, (C.fs (n : Int)).1 = y := ⟨_, rfl⟩
          rw [hy] at hrd e1 e2 e3
          have hr := dread W2 (n : Int) D9
          rw [hrd] at hr
          have HR := Bx.mk hr
          have E1 := Bx.mk e1
          clear hr e1 e4 hrd hy hkey
          have hy1 : (nx : Int) ≤ (y.length : Int) := by omega
          have hy2 : (n : Int) = 5 ∧ (y.length : Int) = (nx : Int) ∨ (n : Int) = 6 := by
            have := HN.out
            rcases (show i = 0 ∨ i = 1 by omega) with h | h
            · exact .inl ⟨by omega, by have := e3 h; omega⟩
            · exact .inr (by omega)
          clear e3
          have HY2 := Bx.mk hy2
          clear hy2
          go_wp2_with fail
          refine HR.out.mono ?_
          rintro e w10 ⟨v10, rfl, O10, B10⟩
          have D10 := D9.later B10
          have P9 := own_below O9 B10
          have B10' := bel B9 B10
          obtain ⟨a10, c10, rfl⟩ := own_isSlice O10
          have hyc : y.length ≤ c10 := by
            obtain ⟨_, _, he, h, _⟩ := Rv.of_own O10
            cases he
            omega
          have hyc1 : (nx : Int) ≤ (c10 : Int) := by omega
          have R10 : Rv w10 (.slice a10 nx c10) x.length (x.map vB) := by
            have := rv_cut (Rv.of_own O10) nx e2
            rw [E1.out] at this
            rw [HNX.out]
            exact this
          clear O10 B10 B9 D9 O9 HR
          rcases HY2.out with ⟨hn5, hy2⟩ | hn5
          all_goals
            clear HY2
            go_wp2_with fail
            refine (HDEC.out _ _ R10 (hF.below B10' hw0)).mono ?_
            rintro e w11 ⟨v11, rfl, O11, C11⟩
            have D11 := D10.later C11
            have P11 := own_below P9 C11
            have B11 := bel B10' C11
            have R11 := Rv.of_own O11
            clear R10 D10 P9 B10' O11 C11
            go_wp2_with fail
            refine (sameInts_refl _ _ t _ R11 (Rv.of_own P11)).mono ?_
            rintro e w12 ⟨rfl, n12, h12⟩
            have C12 : Below w11.heap.size w11 w12 := by rw [h12]; exact belD (Below.refl _ _) _
            have D12 := D11.later C12
            have P12 := own_below P11 C12
            have B12 := bel B11 C12
            clear h12 R11 C12 D11 P11 B11
            go_wp2_with fail
            go_roundw
            case rel => exact ⟨n + 1, i + 1, by simp; omega, ⟨by have := HN.out; omega⟩, by omega, D12, P12, B12⟩
            case measure => simp [intOf]; omega
        · go_wp2_with fail
          refine (lives30_any _).mono ?_
          rintro e w10 ⟨rfl, C10⟩
          go_wp2_with fail
          go_ret
          exact ⟨rfl, bel B9 C10⟩
end Go.Proofs.YtmofakcpldbbmaaDoor
