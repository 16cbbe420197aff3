/- The law TextRound. -/
import Derived.Test.YtcknnlbfbjcjjaaDoorTxtE1
import Derived.Test.YtcknnlbfbjcjjaaDoorTxtW
import Derived.Test.YtcknnlbfbjcjjaaDoorTake
namespace Go.Proofs.YtcknnlbfbjcjjaaDoor
open Go.RowKit

theorem symsM_len (runes : Bool) (f : Nat) (b : List UInt8) : (symsM runes f b).length ≤ f := by
  induction f generalizing b with
  | zero => simp [symsM]
  | succ f ih =>
    cases b with
    | nil => simp [symsM]
    | cons c cs =>
      rw [symsM]
      split
      · simp
      · rw [List.length_cons]
        have := ih ((c :: cs).drop (nextM runes (c :: cs)).2.toNat)
        omega
theorem syms_false (f : Nat) (b : List UInt8) : ∀ y ∈ symsM false f b, 0 ≤ y := by
  induction f generalizing b with
  | zero => simp [symsM]
  | succ f ih =>
    cases b with
    | nil => simp [symsM]
    | cons c cs =>
      rw [symsM]
      have e : nextM false (c :: cs) = ((c.toNat : Int), 1) := rfl
      rw [e, if_neg (by simp)]
      intro y hy
      rcases List.mem_cons.1 hy with rfl | hy
      · simp
      · exact ih _ y hy
/-- What bytes decode to. -/
theorem dec_cases (runes : Bool) (bs : List UInt8) (h : bs.length ≤ 60000) :
    (∃ p, decE (decM runes bs) = 0 ∧ decL (decM runes bs) = p ∧ valM p runes = 0 ∧ encR p runes = bs ∧ p.all (symB runes) = true ∧ p.length ≤ bs.length) ∨ (decE (decM runes bs) = 9 ∧ decL (decM runes bs) = [] ∧ runes = true) := by
  have hl : (decM runes bs).length ≤ bs.length := symsM_len runes _ _
  by_cases hp : ∀ y ∈ decM runes bs, 0 ≤ y
  · left
    obtain ⟨h1, h2⟩ := enc_syms runes bs.length bs (Nat.le_refl _) hp
    have he : decE (decM runes bs) = 0 := by unfold decE; rw [if_pos hp, if_pos (by omega)]
    have hv : valM (decM runes bs) runes = 0 := by
      unfold valM
      rw [if_neg (by omega)]
      exact if_pos h2
    exact ⟨_, he, by unfold decL; rw [if_pos he], hv, by unfold encR; rw [if_pos hv]; exact h1, h2, hl⟩
  · right
    have he : decE (decM runes bs) = 9 := by unfold decE; rw [if_neg hp]
    refine ⟨he, by unfold decL; rw [he, if_neg (by decide)], ?_⟩
    cases runes
    · exact absurd (syms_false bs.length bs) hp
    · rfl
theorem enc_app (a b : List Int) (runes : Bool) : encM (a ++ b) runes = encM a runes ++ encM b runes := by simp [encM, List.flatMap_append]
theorem enc_pre (runes : Bool) (p a : List Int) (hp : p.all (symB runes) = true) (ha : a.all (symB runes) = true) (rest : List UInt8) (h : encM a runes = encM p runes ++ rest) : p.length ≤ a.length ∧ a.take p.length = p := by
  induction p generalizing a with
  | nil => simp
  | cons s p ih =>
    rw [List.all_cons, Bool.and_eq_true] at hp
    obtain ⟨n, rfl⟩ := Int.eq_ofNat_of_zero_le (symB_nat hp.1).1
    have e1 : encM ((n : Int) :: p) runes = oneM runes n ++ encM p runes := rfl
    rw [e1, List.append_assoc] at h
    cases a with
    | nil =>
      have h1 := oneM_pos runes n
      have h2 := congrArg List.length h
      rw [List.length_append] at h2
      rw [List.length_append] at h2
      have h3 : (encM [] runes).length = 0 := rfl
      omega
    | cons t a =>
      rw [List.all_cons, Bool.and_eq_true] at ha
      obtain ⟨m, rfl⟩ := Int.eq_ofNat_of_zero_le (symB_nat ha.1).1
      have e2 : encM ((m : Int) :: a) runes = oneM runes m ++ encM a runes := rfl
      rw [e2] at h
      have n1 := next_one runes m ha.1 (encM a runes)
      have n2 := next_one runes n hp.1 (encM p runes ++ rest)
      rw [h, n2] at n1
      have hnm : n = m := by
        have := congrArg Prod.fst n1
        simp only at this
        omega
      subst hnm
      obtain ⟨h3, h4⟩ := ih a hp.2 ha.2 (List.append_cancel_left h)
      exact ⟨by simpa using h3, by rw [List.length_cons, List.take_succ_cons, h4]⟩
theorem text_all (l : List Int) (most : Nat) (runes : Bool) : (textM l most runes).all (symB runes) = true := List.all_eq_true.2 fun x hx => by
  obtain ⟨y, _, rfl⟩ := List.mem_map.1 hx
  exact symOf_ok runes y
theorem encode_ok (v : Value) (l : List Int) (runes : Bool) (w : World) (hv : Rv w v l.length (l.map (Value.int .i64))) (hl : l.length ≤ 60000) (ha : l.all (symB runes) = true) (hF : FM w) :
    Calls Tryd.prog 33 #[v, .bool runes] w (EnPost w 0 (encM l runes)) := by
  have h := encode_any v l runes w hv (by omega) hF
  have hv0 : valM l runes = 0 := by unfold valM; rw [if_neg (by omega), if_pos ha]
  have he : encR l runes = encM l runes := by unfold encR; rw [if_pos hv0]
  rwa [hv0, he] at h
theorem decode_enc (v : Value) (l : List Int) (runes : Bool) (w : World) (hv : Rv w v (encM l runes).length ((encM l runes).map vB)) (hl : l.length ≤ 60000) (ha : l.all (symB runes) = true) (hF : FM w) :
    Calls Tryd.prog 15 #[v, .bool runes] w (DePost w 0 l) := by
  have hle := encM_len l runes
  have h := decode_any v (encM l runes) runes w hv (by omega) hF
  rw [dec_enc runes l ha] at h
  have hp : ∀ y ∈ l, 0 ≤ y := fun y hy => (symB_nat (List.all_eq_true.1 ha y hy)).1
  have he : decE l = 0 := by unfold decE; rw [if_pos hp, if_pos (by omega)]
  have hd : decL l = l := by unfold decL; rw [if_pos he]
  rwa [he, hd] at h

set_option maxRecDepth 20000 in
set_option maxHeartbeats 8000000 in
theorem law_TextRound (u v r : Value) (l m : List Int) (raw : List UInt8) (cut : Int) (runes : Bool) (w : World) (hu : Rv w u l.length (l.map (Value.int .i64))) (hv : Rv w v m.length (m.map (Value.int .i64))) (hr : Rv w r raw.length (raw.map vB))
    (hl : ∀ x ∈ l, -9223372036854775808 ≤ x ∧ x ≤ 9223372036854775807) (hm : ∀ x ∈ m, -9223372036854775808 ≤ x ∧ x ≤ 9223372036854775807) (hc : -9223372036854775808 ≤ cut ∧ cut ≤ 9223372036854775807) (hF : FM w) :
    Calls Tryd.prog 9 #[u, v, r, .int .i64 cut, .bool runes] w (RetTB w) := by
  have hw0 : 0 < w.heap.size := World.block_lt_of_cell? w _ (hF 0 (by omega))
  have HX := Lib.hid hl
  have HM := Lib.hid hm
  have HC := Lib.hid hc
  clear hl hm hc
  go_enter Tryd.func9, Tryd.ntmps9
  go_wp2_with fail
  refine (text_any u l 25 runes w hu HX.out (by omega)).mono ?_
  rintro e w1 ⟨va, rfl, M1⟩
  have na := textM_le l 25 runes
  have haa := text_all l 25 runes
  generalize textM l 25 runes = a at *
  have B1 := M1.2
  have RA := M1.rv
  rw [List.length_map] at RA
  clear M1
  go_wp2_with fail
  refine (text_any v m 12 runes w1 (hv.below B1) HM.out (by omega)).mono ?_
  rintro e w2 ⟨vb, rfl, M2⟩
  have nb := textM_le m 12 runes
  have hbb := text_all m 12 runes
  generalize textM m 12 runes = b at *
  have B2 := bel B1 M2.2
  have RA := RA.below M2.2
  have RB := M2.rv
  rw [List.length_map] at RB
  clear M2 B1
  have ex := fun w1 h1 h2 => encode_ok va a runes w1 h1 (by omega) haa h2
  have ey := fun w1 h1 h2 => encode_ok vb b runes w1 h1 (by omega) hbb h2
  have ez := fun v1 w1 h1 h2 => encode_ok v1 (a ++ b) runes w1 h1 (by rw [List.length_append]; omega) (by rw [List.all_append, haa, hbb]; rfl) h2
  have ed := fun v1 w1 h1 h2 => decode_enc v1 a runes w1 h1 (by omega) haa h2
  have hpre : ∀ p : List Int, p.all (symB runes) = true → (∃ rest, encM a runes = encM p runes ++ rest) → p.length ≤ a.length ∧ a.take p.length = p := fun p hp ⟨rest, h⟩ => enc_pre runes p a hp haa rest h
  have hxl := encM_len a runes
  have hyl := encM_len b runes
  rw [enc_app] at ez
  generalize encM a runes = x at *
  generalize encM b runes = y at *
  have EX := Lib.hid ex
  have EY := Lib.hid ey
  have EZ := Lib.hid ez
  have ED := Lib.hid ed
  have HP := Lib.hid hpre
  clear ex ey ez ed hpre haa hbb
  obtain ⟨aa, ca, e1, _, _⟩ := RA.opened
  subst e1
  obtain ⟨ab, cb, e2, _, _⟩ := RB.opened
  subst e2
  go_wp2_with fail
  refine (EX.out _ RA (hF.below B2 hw0)).mono ?_
  rintro e w3 ⟨v3, rfl, M3⟩
  have B3 := bel B2 M3.2
  have RA := RA.below M3.2
  have RB := RB.below M3.2
  have RX := M3.rv
  rw [List.length_map] at RX
  obtain ⟨ax, cx, e3, _, _⟩ := RX.opened
  subst e3
  clear M3 B2
  go_wp2_with fail
  refine (EY.out _ RB (hF.below B3 hw0)).mono ?_
  rintro e w4 ⟨v4, rfl, M4⟩
  have B4 := bel B3 M4.2
  have RA := RA.below M4.2
  have RB := RB.below M4.2
  have RX := RX.below M4.2
  have RY := M4.rv
  rw [List.length_map] at RY
  obtain ⟨ay, cy, e4, _, _⟩ := RY.opened
  subst e4
  clear M4 B3
  go_wp2_with (first
    | (at_builtin; refine wpList_app _ rfl _ _ rfl Tryd.elI w4.heap.size _ 0 _ rfl (own_empty w4 _) _ a.length _ rfl (RA.below ((Below.refl _ _).alloc (Nat.le_refl _) _)) (by simp) (ones_I _) (by omega) (by simp) ?_; intro v5 w5 O5 hg5 _; obtain ⟨k5, a5, c5, rfl⟩ := own_shape O5; have hb5 : Below w4.heap.size w4 w5 := ((Below.refl _ w4).alloc (Nat.le_refl _) _).grown hg5 (by simp) (fun g hg => by cases hg; exact Nat.le_refl _))
    | (at_builtin; refine wpList_app _ rfl _ _ rfl Tryd.elI w4.heap.size _ _ _ rfl O5 _ b.length _ rfl (RB.below hb5) (by simp) (ones_I _) (by omega) hb5.size ?_; intro v6 w6 O6 hg6 _; obtain ⟨k6, a6, c6, rfl⟩ := own_shape O6))
  have b6 : Below w4.heap.size w4 w6 := hb5.grown hg6 hb5.size (fun g hg => (O5.lt g hg).1)
  clear hg5 hg6 O5 hb5
  have R6 : Rv w6 (.slice a6 k6 c6) (a ++ b).length ((a ++ b).map (Value.int .i64)) := by
    have h := Rv.of_own O6
    rw [List.map_append, List.length_append]
    simpa using h
  have e6 := own_kk3 R6
  subst e6
  have B6 := bel B4 b6
  have RA := RA.below b6
  have RX := RX.below b6
  have RY := RY.below b6
  clear O6 b6 RB B4
  refine (EZ.out _ _ R6 (hF.below B6 hw0)).mono ?_
  rintro e w7 ⟨v7, rfl, M7⟩
  have B7 := bel B6 M7.2
  have RA := RA.below M7.2
  have RX := RX.below M7.2
  have RY := RY.below M7.2
  have RZ := M7.rv
  rw [List.length_map] at RZ
  clear M7 B6 R6 EX EY EZ
  go_wp2_with fail
  refine (ED.out _ _ RX (hF.below B7 hw0)).mono ?_
  rintro e w8 ⟨v8, rfl, O8, C8⟩
  have B8 := bel B7 C8
  have RA := RA.below C8
  have RX := RX.below C8
  have RY := RY.below C8
  have RZ := RZ.below C8
  have R8 := Rv.of_own O8
  clear O8 C8 B7 ED
  go_wp2_with fail
  refine (sameInts_refl _ _ a _ RA R8).mono ?_
  rintro e w9 ⟨rfl, n9, h9⟩
  have C9 : Below w8.heap.size w8 w9 := by rw [h9]; exact belD (Below.refl _ _) _
  clear h9 R8
  have B9 := bel B8 C9
  have RA := RA.below C9
  have RX := RX.below C9
  have RY := RY.below C9
  have RZ := RZ.below C9
  clear C9 B8
  go_wp2_with (first
    | (at_builtin; refine wpList_appg _ (by rfl) _ _ rfl Tryd.elB w9.heap.size _ 0 _ rfl (own_empty w9 _) _ x.length _ rfl (RX.below ((Below.refl _ _).alloc (Nat.le_refl _) _)) (by simp) (ones_B _) (by omega) (by simp) ?_; intro v5 w10 O5 hg5 _; obtain ⟨k5, a5, c5, rfl⟩ := own_shape O5; have hb5 : Below w9.heap.size w9 w10 := ((Below.refl _ w9).alloc (Nat.le_refl _) _).grown hg5 (by simp) (fun g hg => by cases hg; exact Nat.le_refl _))
    | (at_builtin; refine wpList_appg _ (by rfl) _ _ rfl Tryd.elB w9.heap.size _ _ _ rfl O5 _ y.length _ rfl (RY.below hb5) (by simp) (ones_B _) (by omega) hb5.size ?_; intro v6 w11 O6 hg6 _; obtain ⟨k6, a10, c10, rfl⟩ := own_shape O6))
  have b11 : Below w9.heap.size w9 w11 := hb5.grown hg6 hb5.size (fun g hg => (O5.lt g hg).1)
  clear hg5 hg6 O5 hb5
  have R11 : Rv w11 (.slice a10 k6 c10) (x ++ y).length ((x ++ y).map vB) := by
    have h := Rv.of_own O6
    rw [List.map_append, List.length_append]
    simpa using h
  have e11 := own_kk3 R11
  subst e11
  have B11 := bel B9 b11
  have RA := RA.below b11
  have RX := RX.below b11
  have RZ := RZ.below b11
  clear O6 b11 RY B9
  refine (sameBytes_refl _ _ (x ++ y) _ RZ R11).mono ?_
  rintro e w12 ⟨rfl, n12, h12⟩
  have C12 : Below w11.heap.size w11 w12 := by rw [h12]; exact belD (Below.refl _ _) _
  clear h12 RZ R11
  have B12 := bel B11 C12
  have RA := RA.below C12
  have RX := RX.below C12
  clear C12 B11
  obtain ⟨k, hk, hkl⟩ : ∃ k : Nat, around cut ((x.length : Int) + 1) = (k : Int) ∧ k ≤ x.length := by
    have h1 := around_lo cut ((x.length : Int) + 1) (by omega)
    have h2 := around_hi cut ((x.length : Int) + 1) (by omega)
    exact ⟨(around cut ((x.length : Int) + 1)).toNat, by omega, by omega⟩
  have har := fun w1 => around_any cut ((x.length : Int) + 1) (by omega) HC.out.1 HC.out.2 (by omega) w1
  rw [hk] at har
  have HAR := Lib.hid har
  clear har hk
  have RK : Rv w12 (.slice ax k cx) (x.take k).length ((x.take k).map vB) := by
    obtain ⟨ao, cap, he, _, h⟩ := RX.firsts k hkl
    cases he
    rw [List.length_take, Nat.min_eq_left hkl, List.map_take]
    exact h k rfl
  have hkc : k ≤ cx := by
    obtain ⟨_, _, he, h, _⟩ := RX
    cases he
    omega
  have hlk : (x.take k).length = k := by rw [List.length_take]; omega
  have hxk : Hid (x = x.take k ++ x.drop k) := (List.take_append_drop k x).symm
  have hkli : (k : Int) ≤ (x.length : Int) := by omega
  have hdk := fun w1 h1 h2 => decode_any (.slice ax k cx) (x.take k) runes w1 h1 (by omega) h2
  go_wp2_with fail
  refine (HAR.out _).mono ?_
  rintro e w' ⟨rfl, rfl⟩
  clear HAR
  rcases dec_cases runes (x.take k) (by omega) with ⟨p, d1, d2, d3, d4, d5, d6⟩ | ⟨d1, d2, d3⟩
  · rw [d1, d2] at hdk
    have hep := fun v w1 h1 h2 => encode_any v p runes w1 h1 (by omega) h2
    rw [d3, d4] at hep
    have hx2 : x = encM p runes ++ x.drop k := by
      have : encR p runes = encM p runes := by unfold encR; rw [if_pos d3]
      rw [← this, d4]; exact hxk.out
    obtain ⟨hpl, hpt⟩ := HP.out p d5 ⟨_, hx2⟩
    generalize hT : x.take k = xk at *
    have HDK := Lib.hid hdk
    have HEP := Lib.hid hep
    have HPT := Lib.hid hpt
    clear hdk hep hpt d1 d2 d3 d4 d5 hT hxk hx2 HP
    go_wp2_with fail
    refine (HDK.out _ RK (hF.below B12 hw0)).mono ?_
    rintro e w13 ⟨v13, rfl, O13, C13⟩
    have B13 := bel B12 C13
    have RA := RA.below C13
    have RK := RK.below C13
    have RP := Rv.of_own O13
    obtain ⟨k13, a13, c13, rfl⟩ := own_shape O13
    have e13 := own_kk3 RP
    subst e13
    clear O13 C13 B12 HDK RX
    go_wp2_with fail
    refine (HEP.out _ _ RP (hF.below B13 hw0)).mono ?_
    rintro e w14 ⟨v14, rfl, M14⟩
    have B14 := bel B13 M14.2
    have RA := RA.below M14.2
    have RK := RK.below M14.2
    have RP := RP.below M14.2
    have RG := M14.rv
    rw [List.length_map] at RG
    clear M14 B13 HEP
    have RAP : Rv w14 (.slice aa p.length ca) p.length (p.map (Value.int .i64)) := by
      obtain ⟨ao, cap, he, _, h⟩ := RA.firsts p.length hpl
      cases he
      have h2 := h _ rfl
      rwa [← List.map_take, HPT.out] at h2
    have hplc : p.length ≤ ca := by
      obtain ⟨_, _, he, h, _⟩ := RA
      cases he
      omega
    have hpli : (p.length : Int) ≤ (a.length : Int) := by omega
    have hk64 : (x.length : Int) ≤ 100 := by omega
    go_wp2_with fail
    refine (sameBytes_refl _ _ xk _ RG RK).mono ?_
    rintro e w15 ⟨rfl, n15, h15⟩
    have C15 : Below w14.heap.size w14 w15 := by rw [h15]; exact belD (Below.refl _ _) _
    clear h15 RG RK
    have B15 := bel B14 C15
    have RP := RP.below C15
    have RAP := RAP.below C15
    clear C15 B14 RA
    go_wp2_with fail
    refine (sameInts_refl _ _ p _ RP RAP).mono ?_
    rintro e w16 ⟨rfl, n16, h16⟩
    have BN : Below w.heap.size w w16 := by rw [h16]; exact belD B15 _
    clear h16 RP RAP B15
    have RR9 := hr.below BN
    go_wp2_with fail
    refine (few_some r raw 30 (by omega) _ RR9).mono ?_
    rintro e w20 ⟨v20, qs, HQ, hq, rfl, M20, R20⟩
    have B20 := bel BN M20.2
    clear M20
    obtain ⟨a20, c20, e20, _, _⟩ := R20.opened
    subst e20
    have hdq := fun w1 h1 h2 => decode_any (.slice a20 qs.length c20) qs runes w1 h1 (by omega) h2
    rcases dec_cases runes qs (by omega) with ⟨p2, g1, g2, g3, g4, g5, g6⟩ | ⟨g1, g2, g3⟩
    · rw [g1, g2] at hdq
      have hp2 := fun v w1 h1 h2 => encode_any v p2 runes w1 h1 (by omega) h2
      rw [g3, g4] at hp2
      have HDQ := Lib.hid hdq
      have HP2 := Lib.hid hp2
      clear hdq hp2 g1 g2 g3 g4 g5
      go_wp2_with fail
      refine (HDQ.out _ R20 (hF.below B20 hw0)).mono ?_
      rintro e w21 ⟨v21, rfl, O21, C21⟩
      have B21 := bel B20 C21
      have R20 := R20.below C21
      have R21 := Rv.of_own O21
      clear O21 C21 B20 HDQ
      go_wp2_with fail
      refine (HP2.out _ _ R21 (hF.below B21 hw0)).mono ?_
      rintro e w22 ⟨v22, rfl, M22⟩
      have B22 := bel B21 M22.2
      have R22 := M22.rv
      rw [List.length_map] at R22
      clear M22 B21 HP2
      go_wp2_with fail
      refine (few_some r raw 30 (by omega) _ (hr.below B22)).mono ?_
      rintro e w23 ⟨v23, qs2, HQ2, _, rfl, M23, R23⟩
      obtain rfl : qs2 = qs := by rw [HQ2.out, HQ.out]
      have B23 := bel B22 M23.2
      have R22 := R22.below M23.2
      clear M23 B22
      go_wp2_with fail
      refine (sameBytes_refl _ _ qs2 _ R22 R23).mono ?_
      rintro e w24 ⟨rfl, n24, h24⟩
      have B24 : Below w.heap.size w w24 := by rw [h24]; exact belD B23 _
      clear h24 B23 R22 R23
      go_wp2_with fail
      refine (lives4_any _ (hF.below B24 hw0)).mono ?_
      rintro e w25 ⟨rfl, C25⟩
      go_wp2_with fail
      go_ret
      exact ⟨rfl, bel B24 C25⟩
    · rw [g1, g2] at hdq
      have HDQ := Lib.hid hdq
      clear hdq g1 g2
      cases g3
      go_wp2_with fail
      refine (HDQ.out _ R20 (hF.below B20 hw0)).mono ?_
      rintro e w21 ⟨v21, rfl, O21, C21⟩
      have B21 := bel B20 C21
      obtain ⟨k21, a21, c21, rfl⟩ := own_shape O21
      have e21 := own_kk3 (Rv.of_own O21)
      rw [List.length_nil] at e21
      subst e21
      clear O21 C21 B20 HDQ
      go_wp2_with fail
      refine (lives4_any _ (hF.below B21 hw0)).mono ?_
      rintro e w25 ⟨rfl, C25⟩
      go_wp2_with fail
      go_ret
      exact ⟨rfl, bel B21 C25⟩
  · rw [d1, d2] at hdk
    have HDK := Lib.hid hdk
    clear hdk d1 d2 hxk HP
    cases d3
    generalize x.take k = xk at *
    go_wp2_with fail
    refine (HDK.out _ RK (hF.below B12 hw0)).mono ?_
    rintro e w13 ⟨v13, rfl, O13, C13⟩
    have BN := bel B12 C13
    clear O13 C13 B12 HDK RX RA RK
    have RR9 := hr.below BN
    go_wp2_with fail
    refine (few_some r raw 30 (by omega) _ RR9).mono ?_
    rintro e w20 ⟨v20, qs, HQ, hq, rfl, M20, R20⟩
    have B20 := bel BN M20.2
    clear M20
    obtain ⟨a20, c20, e20, _, _⟩ := R20.opened
    subst e20
    have hdq := fun w1 h1 h2 => decode_any (.slice a20 qs.length c20) qs true w1 h1 (by omega) h2
    rcases dec_cases true qs (by omega) with ⟨p2, g1, g2, g3, g4, g5, g6⟩ | ⟨g1, g2, g3⟩
    · rw [g1, g2] at hdq
      have hp2 := fun v w1 h1 h2 => encode_any v p2 true w1 h1 (by omega) h2
      rw [g3, g4] at hp2
      have HDQ := Lib.hid hdq
      have HP2 := Lib.hid hp2
      clear hdq hp2 g1 g2 g3 g4 g5
      go_wp2_with fail
      refine (HDQ.out _ R20 (hF.below B20 hw0)).mono ?_
      rintro e w21 ⟨v21, rfl, O21, C21⟩
      have B21 := bel B20 C21
      have R20 := R20.below C21
      have R21 := Rv.of_own O21
      clear O21 C21 B20 HDQ
      go_wp2_with fail
      refine (HP2.out _ _ R21 (hF.below B21 hw0)).mono ?_
      rintro e w22 ⟨v22, rfl, M22⟩
      have B22 := bel B21 M22.2
      have R22 := M22.rv
      rw [List.length_map] at R22
      clear M22 B21 HP2
      go_wp2_with fail
      refine (few_some r raw 30 (by omega) _ (hr.below B22)).mono ?_
      rintro e w23 ⟨v23, qs2, HQ2, _, rfl, M23, R23⟩
      obtain rfl : qs2 = qs := by rw [HQ2.out, HQ.out]
      have B23 := bel B22 M23.2
      have R22 := R22.below M23.2
      clear M23 B22
      go_wp2_with fail
      refine (sameBytes_refl _ _ qs2 _ R22 R23).mono ?_
      rintro e w24 ⟨rfl, n24, h24⟩
      have B24 : Below w.heap.size w w24 := by rw [h24]; exact belD B23 _
      clear h24 B23 R22 R23
      go_wp2_with fail
      refine (lives4_any _ (hF.below B24 hw0)).mono ?_
      rintro e w25 ⟨rfl, C25⟩
      go_wp2_with fail
      go_ret
      exact ⟨rfl, bel B24 C25⟩
    · rw [g1, g2] at hdq
      have HDQ := Lib.hid hdq
      clear hdq g1 g2
      cases g3
      go_wp2_with fail
      refine (HDQ.out _ R20 (hF.below B20 hw0)).mono ?_
      rintro e w21 ⟨v21, rfl, O21, C21⟩
      have B21 := bel B20 C21
      obtain ⟨k21, a21, c21, rfl⟩ := own_shape O21
      have e21 := own_kk3 (Rv.of_own O21)
      rw [List.length_nil] at e21
      subst e21
      clear O21 C21 B20 HDQ
      go_wp2_with fail
      refine (lives4_any _ (hF.below B21 hw0)).mono ?_
      rintro e w25 ⟨rfl, C25⟩
      go_wp2_with fail
      go_ret
      exact ⟨rfl, bel B21 C25⟩
end Go.Proofs.YtcknnlbfbjcjjaaDoor
