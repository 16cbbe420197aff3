/- The law TextSplices. -/
import Derived.Test.YtcknnlbfbjcjjaaDoorTxtP1
import Derived.Deep.RegionHeld3
namespace Go.Proofs.YtcknnlbfbjcjjaaDoor
open Go.RowKit

theorem und_le (t : List Int) (e : Ed) (ha : -9223372036854775808 ≤ e.a ∧ e.a ≤ 9223372036854775807) (hs : e.s.length ≤ 1000) (ht : t.length ≤ 1000) :
    (-9223372036854775808 ≤ (undR t e).a ∧ (undR t e).a ≤ 9223372036854775807) ∧ (-9223372036854775808 ≤ (undR t e).d ∧ (undR t e).d ≤ 9223372036854775807) ∧ (undR t e).s.length ≤ 1000 := by
  unfold undR
  split
  · unfold und
    refine ⟨ha, ⟨by simp only; omega, by simp only; omega⟩, ?_⟩
    simp only [List.length_take, List.length_drop]
    omega
  · exact ⟨by decide, by decide, by decide⟩
theorem spl_le (t : List Int) (e : Ed) (hs : e.s.length ≤ 1000) (ht : t.length ≤ 1000) : (splR t e).length ≤ 3000 := by
  unfold splR
  split
  · unfold spl
    simp only [List.length_append, List.length_take, List.length_drop]
    omega
  · simp

set_option maxRecDepth 20000 in
set_option maxHeartbeats 8000000 in
theorem law_TextSplices (u v : Value) (l ins : List Int) (n a0 d0 : Int) (w : World) (hu : Rv w u l.length (l.map (Value.int .i64))) (hv : Rv w v ins.length (ins.map (Value.int .i64)))
    (hl : ∀ x ∈ l, -9223372036854775808 ≤ x ∧ x ≤ 9223372036854775807) (hi : ∀ x ∈ ins, -9223372036854775808 ≤ x ∧ x ≤ 9223372036854775807)
    (hn : -9223372036854775808 ≤ n ∧ n ≤ 9223372036854775807) (ha : -9223372036854775808 ≤ a0 ∧ a0 ≤ 9223372036854775807) (hd : -9223372036854775808 ≤ d0 ∧ d0 ≤ 9223372036854775807) (hF : FM w) :
    Calls Tryd.prog 4 #[u, .int .i64 n, v, .int .i64 a0, .int .i64 d0] w (RetTB w) := by
  have hw0 : 0 < w.heap.size := World.block_lt_of_cell? w _ (hF 0 (by omega))
  have HX := Lib.hid hl
  have HI := Lib.hid hi
  have HN := Lib.hid hn
  have HA := Lib.hid ha
  have HD := Lib.hid hd
  clear hl hi hn ha hd
  go_enter Tryd.func4, Tryd.ntmps4
  go_wp2_with fail
  refine (text_any u l 30 true w hu HX.out (by omega)).mono ?_
  rintro e w1 ⟨vt, rfl, M1⟩
  have B1 := M1.2
  have RT := M1.rv
  rw [List.length_map] at RT
  clear M1
  go_wp2_with fail
  refine (text_any u l 30 true w1 (hu.below B1) HX.out (by omega)).mono ?_
  rintro e w2 ⟨vo, rfl, M2⟩
  have nt := textM_le l 30 true
  have htt := text_all l 30 true
  generalize textM l 30 true = t at *
  have B2 := bel B1 M2.2
  have RT := RT.below M2.2
  have RO := M2.rv
  rw [List.length_map] at RO
  clear M2 B1
  obtain ⟨at1, ct, e1, _, _⟩ := RT.opened
  subst e1
  obtain ⟨ao1, co, e2, _, _⟩ := RO.opened
  subst e2
  go_wp2_with fail
  refine (text_any v ins 6 true w2 (hv.below B2) HI.out (by omega)).mono ?_
  rintro e w3 ⟨v3, rfl, M3⟩
  have n3 := textM_le ins 6 true
  generalize textM ins 6 true = s1 at *
  have B3 := bel B2 M3.2
  have RT := RT.below M3.2
  have RO := RO.below M3.2
  have R3 := M3.rv
  rw [List.length_map] at R3
  clear M3 B2
  obtain ⟨x3, y3, e3, _, _⟩ := R3.opened
  subst e3
  go_wp2_with fail
  refine (redit_any _ t n x3 s1.length y3 w3 RT (by omega) HN.out).mono ?_
  rintro e w4 ⟨a1, d1, rfl, hab, hdb, C4⟩
  have HAB := Lib.hid hab
  have HDB := Lib.hid hdb
  have B4 := bel B3 C4
  have RT := RT.below C4
  have RO := RO.below C4
  have R3 := R3.below C4
  clear hab hdb C4 B3
  go_wp2_with fail
  refine (ints_some v ins 4 (by omega) w4 (hv.below B4)).mono ?_
  rintro e w5 ⟨v5, s2, _, n5, rfl, M5, R5⟩
  have B5 := bel B4 M5.2
  have RT := RT.below M5.2
  have RO := RO.below M5.2
  have R3 := R3.below M5.2
  clear M5 B4
  obtain ⟨x5, y5, e5, _, _⟩ := R5.opened
  subst e5
  go_wp2_with fail
  refine (text_any v ins 3 true w5 (hv.below B5) HI.out (by omega)).mono ?_
  rintro e w6 ⟨v6, rfl, M6⟩
  have n6 := textM_le ins 3 true
  generalize textM ins 3 true = s3 at *
  have B6 := bel B5 M6.2
  have RT := RT.below M6.2
  have RO := RO.below M6.2
  have R3 := R3.below M6.2
  have R5 := R5.below M6.2
  have R6 := M6.rv
  rw [List.length_map] at R6
  clear M6 B5
  obtain ⟨x6, y6, e6, _, _⟩ := R6.opened
  subst e6
  have T7 := TabE.new3 (w := w6) (⟨a1, d1, s1⟩, Value.slice x3 s1.length y3) (⟨a0, d0, s2⟩, Value.slice x5 s2.length y5) (⟨(t.length : Int), 0, s3⟩, Value.slice x6 s3.length y6) 37 R3 R5 R6
  have B7 := B6.alloc B6.size (.cells #[.int .i64 a1, .int .i64 d1, Value.slice x3 s1.length y3, .int .i64 a0, .int .i64 d0, Value.slice x5 s2.length y5, .int .i64 (t.length : Int), .int .i64 0, Value.slice x6 s3.length y6] 37)
  have HL : Hid (∀ p ∈ [((⟨a1, d1, s1⟩, Value.slice x3 s1.length y3) : Ed × Value), (⟨a0, d0, s2⟩, Value.slice x5 s2.length y5), (⟨(t.length : Int), 0, s3⟩, Value.slice x6 s3.length y6)], (-9223372036854775808 ≤ p.1.a ∧ p.1.a ≤ 9223372036854775807) ∧ (-9223372036854775808 ≤ p.1.d ∧ p.1.d ≤ 9223372036854775807) ∧ p.1.s.length ≤ 10) := by
    have h1 := HAB.out
    have h2 := HDB.out
    have h3 := HA.out
    have h4 := HD.out
    show ∀ p ∈ _, _
    intro p hp
    simp at hp
    rcases hp with rfl | rfl | rfl
    · exact ⟨h1, h2, by simp only; omega⟩
    · exact ⟨h3, h4, by simp only; omega⟩
    · exact ⟨⟨by simp only; omega, by simp only; omega⟩, ⟨by simp only; omega, by simp only; omega⟩, by simp only; omega⟩
  have hLl : [((⟨a1, d1, s1⟩, Value.slice x3 s1.length y3) : Ed × Value), (⟨a0, d0, s2⟩, Value.slice x5 s2.length y5), (⟨(t.length : Int), 0, s3⟩, Value.slice x6 s3.length y6)].length = 3 := rfl
  simp only at T7
  generalize [((⟨a1, d1, s1⟩, Value.slice x3 s1.length y3) : Ed × Value), (⟨a0, d0, s2⟩, Value.slice x5 s2.length y5), (⟨(t.length : Int), 0, s3⟩, Value.slice x6 s3.length y6)] = L at *
  have A7 := (Below.refl _ w6).alloc (Nat.le_refl _) (.cells #[.int .i64 a1, .int .i64 d1, Value.slice x3 s1.length y3, .int .i64 a0, .int .i64 d0, Value.slice x5 s2.length y5, .int .i64 (t.length : Int), .int .i64 0, Value.slice x6 s3.length y6] 37)
  have RT := RT.below A7
  have RO := RO.below A7
  clear R3 R5 R6 B6 A7 n3 n5 n6
  go_wp2_with fail
  generalize w6.heap.size = b at *
  generalize w6.alloc (.cells #[.int .i64 a1, .int .i64 d1, Value.slice x3 s1.length y3, .int .i64 a0, .int .i64 d0, Value.slice x5 s2.length y5, .int .i64 (t.length : Int), .int .i64 0, Value.slice x6 s3.length y6] 37) = W at *
  go_loopw [14] (fun iv wr => ∃ i : Nat, iv = .int .i64 (i : Int) ∧ i ≤ 3 ∧ Below W.heap.size W wr) (fun iv _ => 3 - (intOf iv).toNat)
  case atStart => exact ⟨0, rfl, by omega, Below.refl _ _⟩
  case round =>
    obtain ⟨i, rfl, hi, hB⟩ := hrel
    have hF8 := hF.below (bel B7 hB) hw0
    by_cases hlt : i < 3
    · obtain ⟨q0, q1, q2, q3⟩ := (T7.below hB) i (by omega)
      obtain ⟨hla, hld, hls⟩ := HL.out L[i] (List.getElem_mem (by omega))
      have hbs := World.block_lt_of_cell? _ _ q0
      generalize L[i] = p at *
      obtain ⟨e, pv⟩ := p
      simp only at q0 q1 q2 q3 hla hld hls
      obtain ⟨px, py, ep, _, _⟩ := q3.opened
      subst ep
      have RT := RT.below hB
      have RO := RO.below hB
      clear T7
      have hc3 : ∀ w', Below wr.heap.size wr w' → w'.cell? ⟨b, i * 3, none⟩ = some (.int .i64 e.a) ∧ w'.cell? ⟨b, i * 3 + 1, none⟩ = some (.int .i64 e.d) ∧ w'.cell? ⟨b, i * 3 + 2, none⟩ = some (.slice px e.s.length py) := fun w' h =>
        ⟨(h.cell (p := ⟨b, i * 3, none⟩) hbs).trans q0, (h.cell (p := ⟨b, i * 3 + 1, none⟩) hbs).trans q1, (h.cell (p := ⟨b, i * 3 + 2, none⟩) hbs).trans q2⟩
      have hsp := fun w1 h1 h2 => splice_any (.slice at1 t.length ct) t e (.slice px e.s.length py) w1 h1 h2 (by omega) (by omega) hla hld
      have hun := fun w1 h1 h2 => undo_any (.slice at1 t.length ct) t e (.slice px e.s.length py) w1 h1 h2 (by omega) (by omega) hla hld
      have hck := fun w1 h1 h2 => rcheck_any (.slice at1 t.length ct) t e (.slice px e.s.length py) w1 h1 h2 (by omega) (by omega) hla hld
      have hrs : chkE t.length e = 0 → ∀ w1, Rv w1 (.slice at1 t.length ct) t.length (t.map (Value.int .i64)) → Rv w1 (.slice px e.s.length py) e.s.length (e.s.map (Value.int .i64)) → Calls Tryd.prog 25 #[.slice at1 t.length ct, e.val (.slice px e.s.length py)] w1 (RetMade w1 3 ((splR t e).map (Value.int .i64))) := by
        intro h w1 h1 h2
        obtain ⟨A, D, ha, hd, hAD, _, _⟩ := chkE_ok h
        have h3 := rsplice_any _ t A D e.s _ w1 h1 h2 (by omega) (by omega) hAD
        have e1 : (⟨(A : Int), (D : Int), e.s⟩ : Ed) = e := by rw [← ha, ← hd]
        have e2 : splR t e = t.take A ++ (e.s ++ t.drop (A + D)) := by
          unfold splR spl
          rw [if_pos h, ha, hd, show ((A : Int) + (D : Int)).toNat = A + D from by omega]
          rfl
        rw [e1] at h3
        rw [e2]
        exact h3
      have hru : chkE t.length e = 0 → ∀ w1, Rv w1 (.slice at1 t.length ct) t.length (t.map (Value.int .i64)) → Rv w1 (.slice px e.s.length py) e.s.length (e.s.map (Value.int .i64)) → Calls Tryd.prog 26 #[.slice at1 t.length ct, e.val (.slice px e.s.length py)] w1 (EdPost w1 (undR t e)) := by
        intro h w1 h1 h2
        obtain ⟨A, D, ha, hd, hAD, _, _⟩ := chkE_ok h
        have h3 := rundo_any _ t A D e.s _ w1 h1 h2 (by omega) hAD
        have e1 : (⟨(A : Int), (D : Int), e.s⟩ : Ed) = e := by rw [← ha, ← hd]
        have e2 : undR t e = ⟨(A : Int), (e.s.length : Int), (t.drop A).take D⟩ := by
          unfold undR und
          rw [if_pos h, ha, hd]
          rfl
        rw [e1] at h3
        rw [e2]
        exact h3
      have hbk := fun h => undo_back t e h htt (by omega)
      have hul := und_le t e hla (by omega) (by omega)
      have hsl := spl_le t e (by omega) (by omega)
      have hs0 : chkE t.length e ≠ 0 → splR t e = [] ∧ undR t e = ⟨0, 0, []⟩ := fun h => ⟨by unfold splR; rw [if_neg h], by unfold undR; rw [if_neg h]⟩
      generalize chkE t.length e = r at *
      generalize splR t e = al at *
      generalize undR t e = U at *
      obtain ⟨ua, ud, us⟩ := U
      simp only at hul
      have HSP := Lib.hid hsp
      have HUN := Lib.hid hun
      have HCK := Lib.hid hck
      have HRS := Lib.hid hrs
      have HRU := Lib.hid hru
      have HBK := Lib.hid hbk
      have HS0 := Lib.hid hs0
      have HC3 := Lib.hid hc3
      have HUL := Lib.hid hul
      clear hsp hun hck hrs hru hbk hs0 hc3 hul
      go_wp2_with fail
      refine (HSP.out _ RT q3).mono ?_
      rintro en w8 ⟨v8, rfl, M8⟩
      obtain ⟨k8, a8, c8, rfl⟩ := own_shape M8.1
      have R8 := M8.rv
      rw [List.length_map] at R8
      have e8 := own_kk3 R8
      subst e8
      have D8 := M8.2
      replace RT := RT.below D8
      replace RO := RO.below D8
      replace q3 := q3.below D8
      obtain ⟨q0, q1, q2⟩ := HC3.out _ D8
      clear M8 HSP
      go_wp2_with fail
      refine (HUN.out _ RT q3).mono ?_
      rintro en w9 ⟨v9, hen, O9, C9⟩
      have hen : en = .returned (.tuple #[.agg #[.int .i64 ua, .int .i64 ud, v9], .int .i64 r]) := hen
      subst hen
      simp only at O9
      obtain ⟨k9, a9, c9, rfl⟩ := own_shape O9
      have R9 := Rv.of_own O9
      have e9 := own_kk3 R9
      subst e9
      have D9 := bel D8 C9
      replace RT := RT.below C9
      replace RO := RO.below C9
      replace q3 := q3.below C9
      replace R8 := R8.below C9
      clear O9 C9 HUN D8
      have Z10 := Box3.new w9 (.int .i64 ua) (.int .i64 ud) (.slice a9 us.length c9)
      have A10 := (Below.refl _ w9).alloc (Nat.le_refl _) (.cells #[.int .i64 ua, .int .i64 ud, .slice a9 us.length c9] 37)
      have D10 := bel D9 A10
      replace RT := RT.below A10
      replace RO := RO.below A10
      replace q3 := q3.below A10
      replace R8 := R8.below A10
      replace R9 := R9.below A10
      obtain ⟨q0, q1, q2⟩ := HC3.out _ D10
      have x0 := Z10.k0
      have x1 := Z10.k1
      have x2 := Z10.k2
      clear A10 D9
      go_wp2_with fail
      refine (HCK.out _ RT q3).mono ?_
      rintro en w11 ⟨rfl, C11⟩
      have hz := Z10.lt
      have Z11 := Z10.kept (C11.block _ hz)
      have D11 := bel D10 C11
      replace RT := RT.below C11
      replace RO := RO.below C11
      replace q3 := q3.below C11
      replace R8 := R8.below C11
      replace R9 := R9.below C11
      have x0 := Z11.k0
      have x1 := Z11.k1
      have x2 := Z11.k2
      have hzl := Z11.lt
      clear C11 D10 Z10 HCK
      generalize w9.heap.size = z at *
      by_cases hr0 : r = 0
      · subst hr0
        obtain ⟨hb1, hb2⟩ := HBK.out rfl
        have hs2 := fun w1 h1 h2 => splice_any (.slice a8 al.length c8) al ⟨ua, ud, us⟩ (.slice a9 us.length c9) w1 h1 h2 (by omega) (by have := HUL.out.2.2; show us.length ≤ _; omega) HUL.out.1 HUL.out.2.1
        rw [hb1, hb2] at hs2
        have HS2 := Lib.hid hs2
        have HRS2 := Lib.hid (HRS.out rfl)
        have HRU2 := Lib.hid (HRU.out rfl)
        clear hb1 hb2 hs2 HBK HS0 HRS HRU HUL
        go_wp2_with fail
        refine (HS2.out _ R8 R9).mono ?_
        rintro en w12 ⟨v12, rfl, M12⟩
        have R12 := M12.rv
        rw [List.length_map] at R12
        have D12 := bel D11 M12.2
        replace RT := RT.below M12.2
        replace RO := RO.below M12.2
        replace q3 := q3.below M12.2
        replace R8 := R8.below M12.2
        replace R9 := R9.below M12.2
        have Z12 := Z11.kept (M12.2.block _ hzl)
        clear M12 D11 Z11 HS2
        have hmk : ∀ w', Below w12.heap.size w12 w' → (w'.cell? ⟨b, i * 3, none⟩ = some (.int .i64 e.a) ∧ w'.cell? ⟨b, i * 3 + 1, none⟩ = some (.int .i64 e.d) ∧ w'.cell? ⟨b, i * 3 + 2, none⟩ = some (.slice px e.s.length py) ∧ w'.cell? ⟨z, 0, none⟩ = some (.int .i64 ua) ∧ w'.cell? ⟨z, 1, none⟩ = some (.int .i64 ud) ∧ w'.cell? ⟨z, 2, none⟩ = some (.slice a9 us.length c9)) ∧ Below w12.heap.size w12 w' := fun w' h => by
          obtain ⟨g0, g1, g2⟩ := HC3.out _ (bel D12 h)
          have Z := Z12.kept (h.block _ Z12.lt)
          exact ⟨⟨g0, g1, g2, Z.k0, Z.k1, Z.k2⟩, h⟩
        have HMK := Lib.hid hmk
        have hBr := Below.refl w12.heap.size w12
        clear hmk x0 x1 x2 q0 q1 q2 HC3 Z12
        go_wp2_with fail
        go_region_held3 (fun W' => (W'.cell? ⟨b, i * 3, none⟩ = some (.int .i64 e.a) ∧ W'.cell? ⟨b, i * 3 + 1, none⟩ = some (.int .i64 e.d) ∧ W'.cell? ⟨b, i * 3 + 2, none⟩ = some (.slice px e.s.length py) ∧ W'.cell? ⟨z, 0, none⟩ = some (.int .i64 ua) ∧ W'.cell? ⟨z, 1, none⟩ = some (.int .i64 ud) ∧ W'.cell? ⟨z, 2, none⟩ = some (.slice a9 us.length c9)) ∧ Below w12.heap.size w12 W')
          (first | exact HMK.out _ hBn | exact HMK.out _ hBr.drew)
          (first
            | (go_at_call 25; have hS := (show (_ ∧ Below w12.heap.size w12 _) by assumption).2; refine (HRS2.out _ (RT.below hS) (q3.below hS)).mono ?_; rintro en w13 ⟨v13, rfl, M13⟩; have R13 := M13.rv; rw [List.length_map] at R13; have hBn := bel hS M13.2)
            | (go_at_call 26; have hS := (show (_ ∧ Below w12.heap.size w12 _) by assumption).2; refine (HRU2.out _ (RT.below hS) (q3.below hS)).mono ?_; rintro en w14 ⟨v14, hen, O14, C14⟩; have hen : en = .returned (.agg #[.int .i64 ua, .int .i64 ud, v14]) := hen; subst hen; have R14 := Rv.of_own O14; have hBn := bel hS C14)
            | (go_at_call 24; have hS := (show (_ ∧ Below w12.heap.size w12 _) by assumption).2; refine (sameEdit_any ⟨ua, ud, us⟩ _ _ _ (R9.below hS) R14).mono ?_; rintro en w15 ⟨rfl, C15⟩; have hBn := bel hS C15)
            | (go_at_call_of 17 a8; have hS := (show (_ ∧ Below w12.heap.size w12 _) by assumption).2; refine (sameInts_refl (.slice a8 al.length c8) _ al _ (R8.below hS) R13).mono ?_; rintro en w16 ⟨rfl, n16, h16⟩; have hBn : Below w12.heap.size w12 w16 := (by rw [h16]; exact belD hS _); clear h16)
            | (go_at_call_of 17 v12; have hS := (show (_ ∧ Below w12.heap.size w12 _) by assumption).2; refine (sameInts_refl v12 _ t _ (R12.below hS) (RO.below hS)).mono ?_; rintro en w16 ⟨rfl, n16, h16⟩; have hBn : Below w12.heap.size w12 w16 := (by rw [h16]; exact belD hS _); clear h16)
            | (go_at_call_of 17 at1; have hS := (show (_ ∧ Below w12.heap.size w12 _) by assumption).2; refine (sameInts_refl (.slice at1 t.length ct) _ t _ (RT.below hS) (RO.below hS)).mono ?_; rintro en w16 ⟨rfl, n16, h16⟩; have hBn : Below w12.heap.size w12 w16 := (by rw [h16]; exact belD hS _); clear h16))
        go_wp2_with fail
        go_roundw
        case rel => exact ⟨i + 1, by go_num, by omega, bel hB (bel D12 hBn)⟩
        case measure => simp [intOf]; omega
      · obtain ⟨hs1, hs2⟩ := HS0.out hr0
        subst hs1
        cases hs2
        have hne : (r != 0) = true := by simpa using hr0
        have hne2 : (r == 0) = false := by simpa using hr0
        clear HRS HRU HBK HS0
        go_wp2_with fail
        refine (sameEdit_any ⟨0, 0, []⟩ _ _ _ R9 (Rv.nil _)).mono ?_
        rintro en w12 ⟨rfl, C12⟩
        go_wp2_with fail
        go_roundw
        case rel => exact ⟨i + 1, by go_num, by omega, bel hB (bel D11 C12)⟩
        case measure => simp [intOf]; omega
    · obtain rfl : i = 3 := by omega
      have B8 := bel B7 hB
      clear T7 hB
      go_wp2_with fail
      refine (lives4_any _ hF8).mono ?_
      rintro e w9 ⟨rfl, C9⟩
      go_wp2_with fail
      go_ret
      exact ⟨rfl, bel B8 C9⟩
end Go.Proofs.YtcknnlbfbjcjjaaDoor
