/- The law JournalApart. -/
import Derived.Test.YtpehnggglolnoaaJlF
namespace Go.Proofs.Ytpehnggglolnoaa
open Go.RowKit

/-- A disk with two logs, in the files 3 and 4. -/
structure Ap (D : Dk) (n : Nat) (K M : List (List UInt8)) : Prop where
  a : LogOk D 3 K
  b : LogOk D 4 M
  room : D.room = 5000
  used : D.used ≤ 3 + 50 * n
  dur : ∀ j, (D.fs j).2 = (D.fs j).1.length
theorem Ap.appA {D : Dk} {n : Nat} {K M : List (List UInt8)} (h : Ap D n K M) {b : List UInt8} (hb : b.length ≤ 10) (hn : n ≤ 90) : ∃ E, D.logApp 3 ⟨K.length, false⟩ b = (0, E, ⟨K.length + 1, false⟩) ∧ Ap E (n + 1) (K ++ [b]) M := by
  have hl := frameM_lens (K.length : Int) b
  have hu := h.used
  obtain ⟨E, h1, h2, h3, h4, h5, h6⟩ := logApp_ok h.a (by decide) b (by omega) (by rw [h.room]; omega)
  exact ⟨E, h1, h2, ⟨h2.on, h2.un, (h5 4 (by decide)).trans h.b.fs⟩, h3.trans h.room, by omega, h6⟩
theorem Ap.appB {D : Dk} {n : Nat} {K M : List (List UInt8)} (h : Ap D n K M) {b : List UInt8} (hb : b.length ≤ 10) (hn : n ≤ 90) : ∃ E, D.logApp 4 ⟨M.length, false⟩ b = (0, E, ⟨M.length + 1, false⟩) ∧ Ap E (n + 1) K (M ++ [b]) := by
  have hl := frameM_lens (M.length : Int) b
  have hu := h.used
  obtain ⟨E, h1, h2, h3, h4, h5, h6⟩ := logApp_ok h.b (by decide) b (by omega) (by rw [h.room]; omega)
  exact ⟨E, h1, ⟨h2.on, h2.un, (h5 3 (by decide)).trans h.a.fs⟩, h2, h3.trans h.room, by omega, h6⟩
theorem Ap.more {D : Dk} {n m : Nat} {K M : List (List UInt8)} (h : Ap D n K M) (hm : n ≤ m) : Ap D m K M := ⟨h.a, h.b, h.room, by have := h.used; omega, h.dur⟩
theorem ap_new (r : List UInt8) (hr : r.length ≤ 3) : ∃ D E F, (newD 5000).append 4 r = (0, D) ∧ (DOk D → D.logOpen 3 = (0, E, []) ∧ E.logOpen 4 = (0, F, []) ∧ Ap F 0 [] []) := by
  have hN := newD_used0 5000
  have ha := app_fits (D := newD 5000) 4 r (by decide) rfl rfl (by rw [hN]; show ((0 : Nat) : Int) + _ ≤ 5000; omega)
  obtain ⟨D, hD⟩ : ∃ D, (newD 5000).put 4 (((newD 5000).fs 4).1 ++ r) ((newD 5000).fs 4).2 = D := ⟨_, rfl⟩
  rw [hD] at ha
  have h1 : D.off = false := by rw [← hD]; rfl
  have h2 : D.armed = false := by rw [← hD]; rfl
  have h3 : (D.fs 3).1 = [] := by rw [← hD, put_fs1 _ _ _ (by decide)]; rfl
  have h4 : (D.fs 4).1 = r := by rw [← hD, put_fs0]; rfl
  have h5 : D.room = 5000 := by rw [← hD]; rfl
  have h6 : D.used ≤ 3 := by
    have := (newD 5000).used_put 4 (((newD 5000).fs 4).1 ++ r) ((newD 5000).fs 4).2 (by decide) (by decide)
    rw [hD, hN, List.length_append] at this
    omega
  obtain ⟨E, o1, o2, o3, o4, o5, o6⟩ := logOpen_on (D := D) (f := 3) (by decide) h1 h2
  rw [h3, scanL_short (by decide)] at o1 o2
  obtain ⟨F, k1, k2, k3, k4, k5, k6⟩ := logOpen_on (D := E) (f := 4) (by decide) o2.on o2.un
  rw [(o5 4 (by decide)).trans h4, scanL_short hr] at k1 k2
  exact ⟨D, E, F, ha, fun _ => ⟨o1, k1, ⟨k2.on, k2.un, (k5 3 (by decide)).trans o2.fs⟩, k2, k3.trans (o3.trans h5), by omega, k6⟩⟩
/-- After a crash both are there. -/
theorem Ap.crash {D : Dk} {n : Nat} {K M : List (List UInt8)} (h : Ap D n K M) (hD : DOk D) : LogOk (D.crash [] (-1)) 3 K ∧ LogOk (D.crash [] (-1)) 4 M :=
  ⟨⟨rfl, rfl, (crash_same hD h.dur [] (-1) 3).trans h.a.fs⟩, ⟨rfl, rfl, (crash_same hD h.dur [] (-1) 4).trans h.b.fs⟩⟩

/-- Two logs on a law's disk. -/
structure JL2 (w0 w : World) (p qa qb : Nat) (X : Nat → Prop) (D : Dk) (g h : Lg) : Prop where
  js : JS w0 w p X D
  a : LgAt w qa p 3 g
  b : LgAt w qb p 4 h
  alo : w0.heap.size ≤ qa
  blo : w0.heap.size ≤ qb
  na : ¬ X qa
  nb : ¬ X qb
  ab : qa ≠ qb
section
variable {w0 w w' : World} {p qa qb : Nat} {g h g' : Lg} {X X' : Nat → Prop} {D E : Dk}
theorem JL2.later (H : JL2 w0 w p qa qb X D g h) (B : Below w.heap.size w w') : JL2 w0 w' p qa qb X D g h := ⟨H.js.later B, H.a.later B, H.b.later B, H.alo, H.blo, H.na, H.nb, H.ab⟩
theorem j2a (H : JL2 w0 w p qa qb X D g h) (bv : Value) (b : List UInt8) (hb : Rv w bv b.length (b.map vB)) (hbl : b.length ≤ 1000000000) (hn : g.n ≤ 1000000000) {r : Int} (ha : D.logApp 3 g b = (r, E, g')) :
    Calls Try.prog 17 #[.pointer (some ⟨qa, 0, none⟩), bv] w fun e w' => e = .returned (.int .i64 r) ∧ ∃ X', JL2 w0 w' p qa qb X' E g' h ∧ DStep (fun b => (X b ∨ b = qa) ∨ b = qb) (fun b => (X' b ∨ b = qa) ∨ b = qb) w w' := by
  refine (jappend (q := qa) ⟨H.js, H.a, H.alo, H.na⟩ bv b hb hbl hn ha).mono ?_
  rintro e w' ⟨rfl, X', J, S⟩
  have hnb : ¬ (X qb ∨ qb = qa) := fun h => h.elim H.nb (fun e => H.ab e.symm)
  exact ⟨rfl, X', ⟨J.js, J.lg, H.b.step S hnb, H.alo, H.blo, J.nq, fun hx => (S.grow qb (.inl hx)).elim hnb (fun h1 => by have := H.b.lt; omega), H.ab⟩, S.wide _⟩
theorem j2b (H : JL2 w0 w p qa qb X D g h) (bv : Value) (b : List UInt8) (hb : Rv w bv b.length (b.map vB)) (hbl : b.length ≤ 1000000000) (hn : h.n ≤ 1000000000) {r : Int} (ha : D.logApp 4 h b = (r, E, g')) :
    Calls Try.prog 17 #[.pointer (some ⟨qb, 0, none⟩), bv] w fun e w' => e = .returned (.int .i64 r) ∧ ∃ X', JL2 w0 w' p qa qb X' E g g' ∧ DStep (fun b => (X b ∨ b = qa) ∨ b = qb) (fun b => (X' b ∨ b = qa) ∨ b = qb) w w' := by
  refine (jappend (q := qb) ⟨H.js, H.b, H.blo, H.nb⟩ bv b hb hbl hn ha).mono ?_
  rintro e w' ⟨rfl, X', J, S⟩
  have hna : ¬ (X qa ∨ qa = qb) := fun h => h.elim H.na (fun e => H.ab e)
  refine ⟨rfl, X', ⟨J.js, H.a.step S hna, J.lg, H.alo, H.blo, fun hx => (S.grow qa (.inl hx)).elim hna (fun h1 => by have := H.a.lt; omega), J.nq, H.ab⟩, ?_⟩
  have T := S.wide fun b => b = qa
  exact ⟨T.os, T.tape, T.output, T.size, fun k hk hX => T.block k hk (fun hx => hX (hx.elim (fun h => h.elim (fun h => .inl (.inl h)) .inr) (fun h => .inl (.inr h)))), fun k hk => (T.grow k (hk.elim (fun h => h.elim (fun h => .inl (.inl h)) .inr) (fun h => .inl (.inr h)))).imp (fun hx => hx.elim (fun h => h.elim (fun h => .inl (.inl h)) .inr) (fun h => .inl (.inr h))) id⟩
end
theorem take_snoc {x : List (List UInt8)} {i : Nat} (hi : i < x.length) : x.take i ++ [x[i]] = x.take (i + 1) := by rw [List.take_succ_eq_append_getElem hi]
theorem Ap.stepA {D : Dk} {n i : Nat} {x M : List (List UInt8)} (h : Ap D n (x.take i) M) (hi : i < x.length) (hb : x[i].length ≤ 10) (hn : n ≤ 90) : ∃ E, D.logApp 3 ⟨(x.take i).length, false⟩ x[i] = (0, E, ⟨(x.take (i + 1)).length, false⟩) ∧ Ap E (n + 1) (x.take (i + 1)) M := by
  obtain ⟨E, h1, h2⟩ := h.appA hb hn
  rw [take_snoc hi] at h2
  exact ⟨E, by rw [h1, ← take_snoc hi, List.length_append]; rfl, h2⟩
theorem Ap.stepB {D : Dk} {n i : Nat} {x K : List (List UInt8)} (h : Ap D n K (x.take i)) (hi : i < x.length) (hb : x[i].length ≤ 10) (hn : n ≤ 90) : ∃ E, D.logApp 4 ⟨(x.take i).length, false⟩ x[i] = (0, E, ⟨(x.take (i + 1)).length, false⟩) ∧ Ap E (n + 1) K (x.take (i + 1)) := by
  obtain ⟨E, h1, h2⟩ := h.appB hb hn
  rw [take_snoc hi] at h2
  exact ⟨E, by rw [h1, ← take_snoc hi, List.length_append]; rfl, h2⟩
theorem take_end {x : List (List UInt8)} {i : Nat} (hi : x.length ≤ i) : x.take (i + 1) = x.take i := by rw [List.take_of_length_le (by omega), List.take_of_length_le hi]

set_option linter.unusedSimpArgs false in
set_option maxRecDepth 20000 in
set_option maxHeartbeats 1000000 in
theorem law_JournalApart (v mv rv : Value) (l m : List Int) (rs : List UInt8) (w : World) (hv : Rv w v l.length (l.map (Value.int .i64))) (hx : ∀ x ∈ l, -9223372036854775808 ≤ x ∧ x ≤ 9223372036854775807)
    (hm : Rv w mv m.length (m.map (Value.int .i64))) (hy : ∀ x ∈ m, -9223372036854775808 ≤ x ∧ x ≤ 9223372036854775807) (hr : Rv w rv rs.length (rs.map vB)) :
    Calls Try.prog 8 #[v, mv, rv] w (RetT w) := by
  obtain ⟨av, cv, rfl⟩ := rv_slice hv
  obtain ⟨am, cm, rfl⟩ := rv_slice hm
  obtain ⟨ar, cr, rfl⟩ := rv_slice hr
  have HX := Bx.mk hx
  have HY := Bx.mk hy
  clear hx hy
  go_enter Try.func8, Try.ntmps8
  go_wp2_with fail
  refine (fresh_any w 5000 (by decide) (by decide)).mono ?_
  rintro e w1 ⟨p, X, rfl, D1, lX, B1⟩
  have J1 : JS w w1 p X (newD 5000) := ⟨D1, lX, B1⟩
  clear D1 lX B1
  go_wp2_with fail
  refine (few_some _ rs 3 (by decide) w1 (hr.below J1.be)).mono ?_
  rintro e w2 ⟨v2, r, _, hrl, rfl, M2, R2⟩
  have J2 := J1.later M2.2
  have O2 := M2.1
  rw [List.length_map] at O2
  have o2 : Off v2 X := Off.ge O2 J1.d.xl
  obtain ⟨a2, c2, rfl⟩ := rv_slice R2
  obtain ⟨D, E, F, hD, hEF⟩ := ap_new r hrl
  have hap := dappend w2 4 _ r J2.d R2 o2 (by omega)
  rw [hD] at hap
  have HAP := Bx.mk hap
  clear M2 O2 J1 R2 o2 hap hr
  go_wp2_with fail
  refine HAP.out.mono ?_
  rintro e w3 ⟨rfl, X3, D3, S3⟩
  have J3 : JS w w3 p X3 D := J2.step D3 S3
  obtain ⟨hE, hF, F0⟩ := hEF J3.d.ok
  clear J2 D3 S3 HAP hD hEF
  go_wp2_with fail
  refine (jopen J3 3 hE).mono ?_
  rintro e w4 ⟨qa, v4, us4, X4, rfl, J4, hq4, S4, L4⟩
  change JL w w4 p qa X4 E 3 ⟨0, false⟩ at J4
  obtain ⟨k4, a4, c4, rfl⟩ := own_shape L4.o.own
  obtain rfl : k4 = 0 := own_k L4.o.own
  clear J3 S4 L4 hE hq4
  go_wp2_with fail
  refine (jopen J4.js 4 hF).mono ?_
  rintro e w5 ⟨qb, v5, us5, X5, rfl, J5, hq5, S5, L5⟩
  change JL w w5 p qb X5 F 4 ⟨0, false⟩ at J5
  have hab : qa ≠ qb := by have := J4.lg.lt; omega
  have J : JL2 w w5 p qa qb X5 F ⟨0, false⟩ ⟨0, false⟩ := ⟨J5.js, J4.lg.step S5 J4.nq, J5.lg, J4.qlo, J5.qlo, fun hx => (S5.grow qa hx).elim J4.nq (fun h1 => by have := J4.lg.lt; omega), J5.nq, hab⟩
  obtain ⟨k5, a5, c5, rfl⟩ := own_shape L5.o.own
  obtain rfl : k5 = 0 := own_k L5.o.own
  clear J4 J5 S5 L5 hF hq5 hab
  go_wp2_with fail
  refine (records_anyG _ l w5 (hv.below J.js.be) HX.out).mono ?_
  rintro e w6 ⟨v6, us6, rfl, L6, U6, B6⟩
  have L6 := LsX.of (X := fun b => (X5 b ∨ b = qa) ∨ b = qb) L6 (Nat.le_refl _) U6 (fun b hb => hb.elim (fun hb => hb.elim (J.js.d.xl b) (fun e => e ▸ J.a.lt)) (fun e => e ▸ J.b.lt))
  have J := J.later B6
  obtain ⟨x, hx⟩ : ∃ x, recM l = x := ⟨_, rfl⟩
  have hxl := recM_len l
  have hxm := recM_mem l
  rw [hx] at L6 hxl hxm
  obtain ⟨k6, a6, c6, rfl⟩ := own_shape L6.o.own
  obtain rfl : k6 = x.length := own_k L6.o.own
  have HXM := Bx.mk hxm
  clear U6 B6 hx hxm HX hv
  go_wp2_with fail
  refine (records_anyG _ m w6 (hm.below J.js.be) HY.out).mono ?_
  rintro e w7 ⟨v7, us7, rfl, L7, U7, B7⟩
  have L7 := LsX.of (X := fun b => (X5 b ∨ b = qa) ∨ b = qb) L7 (Nat.le_refl _) U7 (fun b hb => hb.elim (fun hb => hb.elim (J.js.d.xl b) (fun e => e ▸ J.a.lt)) (fun e => e ▸ J.b.lt))
  have J := J.later B7
  have L6 := L6.later B7
  obtain ⟨y, hy⟩ : ∃ y, recM m = y := ⟨_, rfl⟩
  have hyl := recM_len m
  have hym := recM_mem m
  rw [hy] at L7 hyl hym
  obtain ⟨k7, a7, c7, rfl⟩ := own_shape L7.o.own
  obtain rfl : k7 = y.length := own_k L7.o.own
  have HYM := Bx.mk hym
  clear U7 B7 hy hym HY hm
  go_wp2_with fail
  go_loopw [16] (fun iv W => ∃ (i : Nat) (D : Dk) (X : Nat → Prop), iv = .int .i64 (i : Int) ∧ i ≤ 6 ∧ JL2 w W p qa qb X D ⟨(x.take i).length, false⟩ ⟨(y.take i).length, false⟩ ∧ Bx (Ap D (2 * i) (x.take i) (y.take i)) ∧ LsX W (fun b => (X b ∨ b = qa) ∨ b = qb) w5.heap.size (.slice a6 x.length c6) us6 x ∧ LsX W (fun b => (X b ∨ b = qa) ∨ b = qb) w6.heap.size (.slice a7 y.length c7) us7 y) (fun iv _ => 6 - (intOf iv).toNat)
  case atStart => exact ⟨0, F, X5, rfl, Nat.zero_le _, J, ⟨F0⟩, L6, L7⟩
  case round =>
    clear J F0 L6 L7
    rename World => W
    obtain ⟨i, D, X, rfl, hi, J, A, L6, L7⟩ := hrel
    by_cases h6 : i < 6
    · have ltx : (x.take i).length ≤ 1000000000 := by rw [List.length_take]; omega
      have lty : (y.take i).length ≤ 1000000000 := by rw [List.length_take]; omega
      obtain ⟨A1, hA1⟩ : ∃ n : Nat, 2 * i + 1 = n := ⟨_, rfl⟩
      by_cases ha : i < x.length
      · obtain ⟨b8, c8, u8, e8, _, hc8, R8⟩ := L6.get i ha
        cases e8
        obtain ⟨E8, h8, F8⟩ := A.out.stepA ha (HXM.out _ (List.getElem_mem _)) (by omega)
        obtain ⟨z8, hz8⟩ : ∃ z, x[i] = z := ⟨_, rfl⟩
        have hzl : z8.length ≤ 10 := by rw [← hz8]; exact HXM.out _ (List.getElem_mem _)
        rw [hz8] at R8 h8
        clear hz8
        go_wp2_with fail
        refine (j2a J u8 z8 R8 (by omega) ltx h8).mono ?_
        rintro e w8 ⟨rfl, X8, J, S8⟩
        have L6 := L6.step S8
        have L7 := L7.step S8
        clear S8 R8 hc8 h8 hzl
        by_cases hb : i < y.length
        · obtain ⟨b9, c9, u9, e9, _, hc9, R9⟩ := L7.get i hb
          cases e9
          obtain ⟨E9, h9, F9⟩ := F8.stepB hb (HYM.out _ (List.getElem_mem _)) (by omega)
          obtain ⟨z9, hz9⟩ : ∃ z, y[i] = z := ⟨_, rfl⟩
          have hzl : z9.length ≤ 10 := by rw [← hz9]; exact HYM.out _ (List.getElem_mem _)
          rw [hz9] at R9 h9
          have F9 := Bx.mk F9
          clear hz9 F8 A
          go_wp2_with fail
          refine (j2b J u9 z9 R9 (by omega) lty h9).mono ?_
          rintro e w9 ⟨rfl, X9, J, S9⟩
          have L6 := L6.step S9
          have L7 := L7.step S9
          clear S9 R9 hc9 h9 hzl
          go_wp2_with fail
          go_roundw
          case rel => exact ⟨i + 1, E9, X9, by go_num, by omega, J, ⟨F9.out.more (by omega)⟩, L6, L7⟩
          case measure => simp [intOf]; omega
        · have F8 := Bx.mk F8
          clear A
          go_wp2_with fail
          go_roundw
          case rel => exact ⟨i + 1, E8, X8, by go_num, by omega, by rw [take_end (x := y) (by omega)]; exact J, ⟨by rw [take_end (x := y) (by omega)]; exact F8.out.more (by omega)⟩, L6, L7⟩
          case measure => simp [intOf]; omega
      · by_cases hb : i < y.length
        · obtain ⟨b9, c9, u9, e9, _, hc9, R9⟩ := L7.get i hb
          cases e9
          obtain ⟨E9, h9, F9⟩ := A.out.stepB hb (HYM.out _ (List.getElem_mem _)) (by omega)
          obtain ⟨z9, hz9⟩ : ∃ z, y[i] = z := ⟨_, rfl⟩
          have hzl : z9.length ≤ 10 := by rw [← hz9]; exact HYM.out _ (List.getElem_mem _)
          rw [hz9] at R9 h9
          have F9 := Bx.mk F9
          clear hz9 A
          go_wp2_with fail
          refine (j2b J u9 z9 R9 (by omega) lty h9).mono ?_
          rintro e w9 ⟨rfl, X9, J, S9⟩
          have L6 := L6.step S9
          have L7 := L7.step S9
          clear S9 R9 hc9 h9 hzl
          go_wp2_with fail
          go_roundw
          case rel => exact ⟨i + 1, E9, X9, by go_num, by omega, by rw [take_end (x := x) (by omega)]; exact J, ⟨by rw [take_end (x := x) (by omega)]; exact F9.out.more (by omega)⟩, L6, L7⟩
          case measure => simp [intOf]; omega
        · go_wp2_with fail
          go_roundw
          case rel => exact ⟨i + 1, D, X, by go_num, by omega, by rw [take_end (x := x) (by omega), take_end (x := y) (by omega)]; exact J, ⟨by rw [take_end (x := x) (by omega), take_end (x := y) (by omega)]; exact A.out.more (by omega)⟩, L6, L7⟩
          case measure => simp [intOf]; omega
    · obtain rfl : i = 6 := by omega
      have A := A.out
      rw [List.take_of_length_le hxl, List.take_of_length_le hyl] at A
      obtain ⟨c3, c4'⟩ := A.crash J.js.d.ok
      clear A
      go_wp2_with fail
      refine (dcrash W [] _ (-1) (by decide) (fun x hx => by cases hx) J.js.d (Rv.nil _) (fun b hb => by cases hb)).mono ?_
      rintro e w8 ⟨rfl, D8, S8⟩
      have J8 := J.js.step D8 S8
      have L6 := (L6.less (X' := X) (fun b hb => .inl (.inl hb))).step S8
      have L7 := (L7.less (X' := X) (fun b hb => .inl (.inl hb))).step S8
      obtain ⟨C, hC⟩ : ∃ C, D.crash [] (-1) = C := ⟨_, rfl⟩
      rw [hC] at J8 c3 c4'
      clear J D8 S8 hC
      go_wp2_with fail
      go_loopw [17] (fun iv W => ∃ (i : Nat) (D : Dk) (X : Nat → Prop), iv = .int .i64 (i : Int) ∧ i ≤ 2 ∧ JS w W p X D ∧ Bx (LogOk D 3 x ∧ LogOk D 4 y) ∧ LsX W X w5.heap.size (.slice a6 x.length c6) us6 x ∧ LsX W X w6.heap.size (.slice a7 y.length c7) us7 y) (fun iv _ => 2 - (intOf iv).toNat)
      case atStart => exact ⟨0, C, X, rfl, Nat.zero_le _, J8, ⟨c3, c4'⟩, L6, L7⟩
      case round =>
        clear J8 c3 c4' L6 L7
        rename World => W2
        obtain ⟨i, D, X, rfl, hi, J, A, L6, L7⟩ := hrel
        by_cases h2 : i < 2
        · obtain ⟨E, o1, o2, _, _, o5, _⟩ := logOpen_all J.d.ok A.out.1 (by decide)
          have o4 : LogOk E 4 y := ⟨o2.on, o2.un, (o5 4 (by decide)).trans A.out.2.fs⟩
          have O1 := Bx.mk o1
          have O2 := Bx.mk o2
          have O4 := Bx.mk o4
          have hI : (i : Int) < 2 := by omega
          have HI := Bx.mk h2
          clear A o5 o1 o2 o4 hi h2 h6
          go_wp2_with fail
          refine (jopen J 3 O1.out).mono ?_
          rintro e w9 ⟨q9, v9, us9, X9, rfl, J9, hq9, S9, L9⟩
          have L6 := L6.step S9
          have L7 := L7.step S9
          have L9 := L9.less (X' := X9) (fun b hb => .inl hb)
          obtain ⟨k9, a9, c9, rfl⟩ := own_shape L9.o.own
          obtain rfl : k9 = x.length := own_k L9.o.own
          obtain ⟨G, k1, k2, _, _, k5, _⟩ := logOpen_all J9.js.d.ok O4.out (by decide)
          have k3 : LogOk G 3 x := ⟨k2.on, k2.un, (k5 3 (by decide)).trans O2.out.fs⟩
          have K1 := Bx.mk k1
          have A := Bx.mk (And.intro k3 k2)
          clear S9 J O1 O2 O4 k5 hq9 k1 k2 k3
          go_wp2_with fail
          refine (jopen J9.js 4 K1.out).mono ?_
          rintro e w10 ⟨q10, v10, us10, X10, rfl, J10, hq10, S10, L10⟩
          have L6 := L6.step S10
          have L7 := L7.step S10
          have L9 := L9.step S10
          have L10 := L10.less (X' := X10) (fun b hb => .inl hb)
          obtain ⟨k10, a10, c10, rfl⟩ := own_shape L10.o.own
          obtain rfl : k10 = y.length := own_k L10.o.own
          have J10 := J10.js
          clear S10 J9 K1 hq10
          have HS := Bx.mk (sameLists_refl (.slice a9 x.length c9) (.slice a6 x.length c6) x w10 L9.ls L6.ls)
          clear L9
          go_wp2_with fail
          refine HS.out.mono ?_
          rintro e w11 ⟨rfl, n11, h11⟩
          have B11 : Below w10.heap.size w10 w11 := by rw [h11]; exact belD (Below.refl _ _) _
          have J11 := J10.later B11
          have L6 := L6.later B11
          have L7 := L7.later B11
          have L10 := L10.later B11
          have HS := Bx.mk (sameLists_refl (.slice a10 y.length c10) (.slice a7 y.length c7) y w11 L10.ls L7.ls)
          clear h11 B11 J10 L10
          go_wp2_with fail
          refine HS.out.mono ?_
          rintro e w12 ⟨rfl, n12, h12⟩
          have B12 : Below w11.heap.size w11 w12 := by rw [h12]; exact belD (Below.refl _ _) _
          have J12 := J11.later B12
          have L6 := L6.later B12
          have L7 := L7.later B12
          clear h12 B12 J11
          go_wp2_with fail
          go_roundw
          case rel => exact ⟨i + 1, G, X10, by go_num, by have := HI.out; omega, J12, A, L6, L7⟩
          case measure => have := HI.out; simp [intOf]; omega
        · have B9 := J.be
          go_wp2_with fail
          refine (lives31_any W2).mono ?_
          rintro e w15 ⟨rfl, B15⟩
          go_wp2_with fail
          go_ret
          exact ⟨rfl, bel B9 B15⟩
end Go.Proofs.Ytpehnggglolnoaa
