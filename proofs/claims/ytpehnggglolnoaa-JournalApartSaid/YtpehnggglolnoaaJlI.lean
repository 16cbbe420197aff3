/- The law JournalInverted. -/
import Derived.Test.YtpehnggglolnoaaJlD
namespace Go.Proofs.Ytpehnggglolnoaa
open Go.RowKit

theorem LsX.at {w : World} {X : Nat → Prop} {base : Nat} {v : Value} {us : List Value} {L : List (List UInt8)} (h : LsX w X base v us L) (i : Nat) (hi : i < L.length) :
    ∃ b off cap u, v = .slice (some ⟨b, off, none⟩) L.length cap ∧ w.cell? ⟨b, off + i, none⟩ = some u ∧ Rv w u L[i].length (L[i].map vB) := h.ls.at i hi
theorem rv_slice {w : World} {v : Value} {n : Nat} {us : List Value} (h : Rv w v n us) : ∃ a c, v = .slice a n c := by
  obtain ⟨a, c, h, _⟩ := h
  exact ⟨a, c, h⟩
/-- The first ones of a list. -/
theorem lsB_firsts {w : World} {a : Option Addr} {n c : Nat} {L M : List (List UInt8)} (h : LsB w (.slice a n c) (L ++ M)) : LsB w (.slice a L.length c) L := by
  obtain ⟨us, hr, hl, hx⟩ := h
  rw [List.length_append] at hl
  obtain ⟨ao, cap, e, h1, h2⟩ := hr.firsts L.length (by rw [List.length_append]; omega)
  injection e with e1 e2 e3
  subst e1 e3
  refine ⟨us.take L.length, h2 _ rfl, by rw [List.length_take]; omega, fun i hi u hu => ?_⟩
  rw [List.getElem?_take, if_pos hi] at hu
  have := hx i (by rw [List.length_append]; omega) u hu
  rwa [List.getElem_append_left hi] at this

theorem off_fresh {w : World} {X : Nat → Prop} (hX : ∀ b, X b → b < w.heap.size) (n c : Nat) : Off (.slice (some ⟨w.heap.size, 0, none⟩) n c) X := fun b hb hx => by
  have e : w.heap.size = b := Option.some.inj hb
  have := hX b hx
  omega
set_option linter.unusedSimpArgs false in
set_option maxRecDepth 20000 in
set_option maxHeartbeats 1000000 in
theorem law_JournalInverted (v bv : Value) (l : List Int) (b : List UInt8) (keep flip : Int) (w : World) (hv : Rv w v l.length (l.map (Value.int .i64))) (hx : ∀ x ∈ l, -9223372036854775808 ≤ x ∧ x ≤ 9223372036854775807)
    (hb : Rv w bv b.length (b.map vB)) (hk : -9223372036854775808 ≤ keep ∧ keep ≤ 9223372036854775807) (hf : -9223372036854775808 ≤ flip ∧ flip ≤ 9223372036854775807) :
    Calls Try.prog 9 #[v, bv, .int .i64 keep, .int .i64 flip] w (RetT w) := by
  obtain ⟨av, cv, rfl⟩ := rv_slice hv
  obtain ⟨ab, cb, rfl⟩ := rv_slice hb
  have HX := Bx.mk hx
  have HK := Bx.mk hk
  have HP := Bx.mk hf
  clear hx hk hf
  go_enter Try.func9, Try.ntmps9
  go_wp2_with fail
  refine (fresh_any w 5000 (by decide) (by decide)).mono ?_
  rintro e w1 ⟨p, X, rfl, D1, lX, B1⟩
  have J1 : JS w w1 p X (newD 5000) := ⟨D1, lX, B1⟩
  obtain ⟨E, hE, F0⟩ := Fit.new 0 (by decide)
  clear D1 lX B1
  go_wp2_with fail
  refine (jopen J1 0 hE).mono ?_
  rintro e w2 ⟨q, v2, us2, X2, rfl, J2, hq2, S2, L2⟩
  change JL w w2 p q X2 E 0 ⟨0, false⟩ at J2
  obtain ⟨k2, a2, c2, rfl⟩ := own_shape L2.o.own
  obtain rfl : k2 = 0 := own_k L2.o.own
  have hq := J2.lg.lt
  clear L2 S2 J1 hE hq2
  go_wp2_with fail
  refine (records_anyG _ l w2 (hv.below J2.js.be) HX.out).mono ?_
  rintro e w3 ⟨v3, us3, rfl, L3, U3, B3⟩
  have J3 := J2.later B3
  have L3 := LsX.of (X := fun b => X2 b ∨ b = q) L3 (Nat.le_refl _) U3 (fun b hb => hb.elim (J2.js.d.xl b) (fun e => e ▸ J2.lg.lt))
  obtain ⟨x, hx⟩ : ∃ x, recM l = x := ⟨_, rfl⟩
  have hxl := recM_len l
  have hxm := recM_mem l
  rw [hx] at L3 hxl hxm
  obtain ⟨k3, a3, c3, rfl⟩ := own_shape L3.o.own
  obtain rfl : k3 = x.length := own_k L3.o.own
  have HXM := Bx.mk hxm
  clear U3 B3 J2 hx hxm hq HX
  go_wp2_with fail
  go_loopw [14] (fun iv W => ∃ (i : Nat) (D : Dk) (X : Nat → Prop), iv = .int .i64 (i : Int) ∧ i ≤ x.length ∧ JL w W p q X D 0 ⟨i, false⟩ ∧ Bx (Fit D 0 i (x.take i)) ∧ LsX W (fun b => X b ∨ b = q) w2.heap.size (.slice a3 x.length c3) us3 x) (fun iv _ => x.length - (intOf iv).toNat)
  case atStart => exact ⟨0, E, X2, rfl, Nat.zero_le _, J3, ⟨F0⟩, L3⟩
  case round =>
    clear J3 L3 F0
    rename World => W
    obtain ⟨i, D, X, rfl, hi, J3, F3, L3⟩ := hrel
    by_cases hlt : i < x.length
    · obtain ⟨b4, o4, c4, u4, e4, hc4, R4⟩ := L3.at i hlt
      cases e4
      obtain ⟨y, hy⟩ : ∃ y, x[i] = y := ⟨_, rfl⟩
      have hyl : y.length ≤ 10 := by rw [← hy]; exact HXM.out _ (List.getElem_mem _)
      have htk : (x.take i).length = i := by rw [List.length_take]; omega
      obtain ⟨E4, h4, F4, _⟩ := F3.out.app (by decide) hyl (by omega)
      rw [htk] at h4
      have hsn : x.take i ++ [y] = x.take (i + 1) := by rw [List.take_succ_eq_append_getElem hlt, hy]
      rw [hsn] at F4
      have F4 := Bx.mk F4
      rw [hy] at R4
      clear hy htk hsn
      go_wp2_with fail
      refine (jappend J3 u4 y R4 (by omega) (by show i ≤ _; omega) h4).mono ?_
      rintro e w5 ⟨rfl, X5, J5, S5⟩
      have L5 := L3.step S5
      clear S5 J3 L3 R4 h4 hc4
      go_wp2_with fail
      go_roundw
      case rel => exact ⟨i + 1, E4, X5, by go_num, by omega, J5, F4, L5⟩
      case measure => simp [intOf]; omega
    · obtain rfl : i = x.length := by omega
      have F3 := F3.out
      rw [List.take_of_length_le (Nat.le_refl _)] at F3
      have F3 := Bx.mk F3
      have hcap : x.length ≤ c3 := by
        obtain ⟨_, _, e, h, _⟩ := Rv.of_own L3.o.own
        cases e
        exact h
      have hDok := J3.js.d.ok
      go_wp2_with fail
      refine (darm W 0 (by decide) J3.js.d).mono ?_
      rintro e w4 ⟨rfl, D4, S4⟩
      have J4 := J3.step D4 S4
      have L4 := L3.step (S4.wide fun b => b = q)
      clear D4 S4 J3 L3
      go_wp2_with fail
      refine (few_some _ b 60 (by decide) w4 (hb.below J4.js.be)).mono ?_
      rintro e w5 ⟨v5, y, _, hyl, rfl, M5, R5⟩
      have J5 := J4.later M5.2
      have L5 := L4.later M5.2
      obtain ⟨a5, c5, rfl⟩ := rv_slice R5
      have hu := F3.out.used
      have hfl := frameM_lens (x.length : Int) y
      obtain ⟨E5, h5, ok5, fs5, dur5, _⟩ := logApp_fails hDok F3.out.ok (by decide) y (by omega) (by rw [F3.out.room]; omega)
      obtain ⟨G, hG⟩ : ∃ G, D.arm 0 = G := ⟨_, rfl⟩
      rw [hG] at J5 h5
      clear M5 J4 L4 hG hDok
      go_wp2_with fail
      refine (jappend J5 _ y R5 (by omega) (by show x.length ≤ _; omega) h5).mono ?_
      rintro e w6 ⟨rfl, X6, J6, S6⟩
      have L6 := L5.step S6
      clear J5 L5 S6 R5 h5
      go_wp2_with fail
      refine (lup_any w6 J6.lg).mono ?_
      rintro e w7 ⟨rfl, n7, h7⟩
      have B7 : Below w6.heap.size w6 w7 := by rw [h7]; exact belD (Below.refl _ _) _
      have J7 := J6.later B7
      have L7 := L6.later B7
      clear J6 L6 h7 B7
      go_wp2_with fail
      refine (jappend J7 (.slice none 0 0) [] (Rv.nil _) (by decide) (by show x.length ≤ _; omega) (logApp_down _ _ _ _ (by decide))).mono ?_
      rintro e w8 ⟨rfl, X8, J8, S8⟩
      have L8 := L7.step S8
      clear J7 L7 S8
      go_wp2_with fail
      refine (llen_any w8 J8.lg).mono ?_
      rintro e w9 ⟨rfl, n9, h9⟩
      have B9 : Below w8.heap.size w8 w9 := by rw [h9]; exact belD (Below.refl _ _) _
      have J9 := J8.later B9
      have L9 := L8.later B9
      clear J8 L8 h9 B9
      go_wp2_with fail
      have BA := (Below.refl w9.heap.size w9).alloc (Nat.le_refl _) (.cells #[.int .i64 keep] 3)
      have J10 := J9.later BA
      have L10 := L9.later BA
      have O10 := off_fresh J9.js.d.xl 1 1
      refine (dcrash _ [keep] _ flip HP.out.2 (fun x hx => by rw [List.mem_singleton.1 hx]; exact HK.out.2) J10.js.d (Rv.lit w9 [.int .i64 keep] 3 1 (by decide)) O10).mono ?_
      rintro e w11 ⟨rfl, D11, S11⟩
      have J11 := J10.step D11 S11
      have L11 := L10.step (S11.wide fun b => b = q)
      obtain ⟨M, E12, h12, _⟩ := crash_log ok5 (by decide) fs5 (by rw [dur5, F3.out.dur, F3.out.ok.fs]) [keep] flip D11.ok
      obtain ⟨G, hG⟩ : ∃ G, E5.crash [keep] flip = G := ⟨_, rfl⟩
      rw [hG] at J11 h12
      clear J9 L9 BA J10 L10 O10 D11 S11 hG ok5 fs5 dur5
      go_wp2_with fail
      refine (jappend J11 (.slice none 0 0) [] (Rv.nil _) (by decide) (by show x.length ≤ _; omega) (logApp_down _ _ _ _ (by decide))).mono ?_
      rintro e w12 ⟨rfl, X12, J12, S12⟩
      have L12 := L11.step S12
      clear J11 L11 S12
      go_wp2_with fail
      refine (jopen J12.js 0 h12).mono ?_
      rintro e w13 ⟨q2, v13, us13, X13, rfl, J13, hq13, S13, L13⟩
      have L12 := L12.step (S13.wide fun b => b = q)
      obtain ⟨k13, a13, c13, rfl⟩ := own_shape L13.o.own
      obtain rfl : k13 = (x ++ M).length := own_k L13.o.own
      have R13 := lsB_firsts L13.ls
      have Rx := L12.ls
      have hlen : x.length ≤ (x ++ M).length := by rw [List.length_append]; omega
      have hcap13 : (x ++ M).length ≤ c13 := by
        obtain ⟨_, _, e, h, _⟩ := Rv.of_own L13.o.own
        cases e
        exact h
      have hxM : (x ++ M).length ≤ maxLen := (Rv.of_own L13.o.own).len
      unfold maxLen at hxM
      obtain ⟨nM, hnM⟩ : ∃ n, (x ++ M).length = n := ⟨_, rfl⟩
      rw [hnM] at hlen hcap13 hxM ⊢
      have B13 := J13.js.be
      clear J12 J13 L13 L12 h12 hnM S13
      go_wp2_with fail
      refine (sameLists_refl _ _ x _ R13 Rx).mono ?_
      rintro e w14 ⟨rfl, n14, h14⟩
      have B14 : Below w.heap.size w w14 := by rw [h14]; exact belD B13 _
      clear h14 R13 Rx B13
      go_wp2_with fail
      refine (lives31_any w14).mono ?_
      rintro e w15 ⟨rfl, B15⟩
      go_wp2_with fail
      go_ret
      exact ⟨rfl, bel B14 B15⟩
end Go.Proofs.Ytpehnggglolnoaa
