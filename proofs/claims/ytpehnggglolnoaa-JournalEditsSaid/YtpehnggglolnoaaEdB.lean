/- The model of package edits: begin, end, Move, Formed. -/
import Derived.Test.YtpehnggglolnoaaEdA
import Derived.Test.YtpehnggglolnoaaTxtJ
import Derived.Test.YtpehnggglolnoaaStp
import Derived.Deep.CutBlock
import Derived.Deep.CutRange
namespace Go.Proofs.Ytpehnggglolnoaa
open Go.RowKit

/-- An edit and where its symbols lie. -/
structure EdV where
  e : Ed
  ao : Option Addr
  c : Nat
def EdV.ins (p : EdV) : Value := .slice p.ao p.e.s.length p.c
def EdV.val (p : EdV) : Value := p.e.val p.ins
def EdV.cells (p : EdV) : List Value := [.int .i64 p.e.a, .int .i64 p.e.d, p.ins]
def EdV.mv (p o : EdV) : EdV := ⟨mvE p.e o.e, p.ao, p.c⟩
/-- Few symbols, small numbers. -/
def SmE (e : Ed) : Prop := InT 1000 e ∧ e.s.length ≤ 1000

set_option maxRecDepth 10000 in
theorem begin_any (p : Int) (o : EdV) (w : World) (ho : SmE o.e) (hp : 0 ≤ p ∧ p ≤ 1000) :
    Calls Try.prog 79 #[.int .i64 p, o.val] w fun e w' => e = .returned (.int .i64 (bgE p o.e)) ∧ Below w.heap.size w w' := by
  obtain ⟨⟨a, d, s⟩, ao, c⟩ := o
  obtain ⟨⟨h1, h2, h3⟩, h4⟩ := ho
  unfold EdV.val EdV.ins Ed.val
  simp only at h1 h2 h3 h4 ⊢
  have B0 : Below w.heap.size w (w.alloc (.cells #[.int .i64 a, .int .i64 d, .slice ao s.length c] 45)) := (Below.refl _ w).alloc (Nat.le_refl _) _
  have C0 := Box3.new w (.int .i64 a) (.int .i64 d) (.slice ao s.length c)
  have k0 := C0.k0
  have k1 := C0.k1
  have k2 := C0.k2
  unfold bgE
  simp only
  by_cases hc : p < a
  · rw [if_pos hc]
    go_enter Try.func79, Try.ntmps79
    go_wp2_with fail
    go_ret
    exact ⟨rfl, B0⟩
  · rw [if_neg hc]
    by_cases hd : a + d ≤ p
    · rw [if_pos hd]
      go_enter Try.func79, Try.ntmps79
      go_wp2_with fail
      go_ret
      exact ⟨rfl, B0⟩
    · rw [if_neg hd]
      go_enter Try.func79, Try.ntmps79
      go_wp2_with fail
      go_ret
      exact ⟨rfl, B0⟩
set_option maxRecDepth 10000 in
theorem end_any (p : Int) (o : EdV) (w : World) (ho : SmE o.e) (hp : 0 ≤ p ∧ p ≤ 1000) :
    Calls Try.prog 80 #[.int .i64 p, o.val] w fun e w' => e = .returned (.int .i64 (enE p o.e)) ∧ Below w.heap.size w w' := by
  obtain ⟨⟨a, d, s⟩, ao, c⟩ := o
  obtain ⟨⟨h1, h2, h3⟩, h4⟩ := ho
  unfold EdV.val EdV.ins Ed.val
  simp only at h1 h2 h3 h4 ⊢
  have B0 : Below w.heap.size w (w.alloc (.cells #[.int .i64 a, .int .i64 d, .slice ao s.length c] 45)) := (Below.refl _ w).alloc (Nat.le_refl _) _
  have C0 := Box3.new w (.int .i64 a) (.int .i64 d) (.slice ao s.length c)
  have k0 := C0.k0
  have k1 := C0.k1
  have k2 := C0.k2
  unfold enE
  simp only
  by_cases hc : p ≤ a
  · rw [if_pos hc]
    go_enter Try.func80, Try.ntmps80
    go_wp2_with fail
    go_ret
    exact ⟨rfl, B0⟩
  · rw [if_neg hc]
    by_cases hd : a + d ≤ p
    · rw [if_pos hd]
      go_enter Try.func80, Try.ntmps80
      go_wp2_with fail
      go_ret
      exact ⟨rfl, B0⟩
    · rw [if_neg hd]
      go_enter Try.func80, Try.ntmps80
      go_wp2_with fail
      go_ret
      exact ⟨rfl, B0⟩
theorem bgE_in {n m : Nat} {p : Int} {o : Ed} (hp : 0 ≤ p ∧ p ≤ (n : Int)) (ho : InT n o) (hm : (m : Int) = (n : Int) - o.d + (o.s.length : Int)) : 0 ≤ bgE p o ∧ bgE p o ≤ (m : Int) := by
  obtain ⟨h1, h2, h3⟩ := ho
  have hs : 0 ≤ (o.s.length : Int) := by omega
  unfold bgE
  generalize (o.s.length : Int) = s at *
  split <;> (try split) <;> omega
theorem enE_in {n m : Nat} {p : Int} {o : Ed} (hp : 0 ≤ p ∧ p ≤ (n : Int)) (ho : InT n o) (hm : (m : Int) = (n : Int) - o.d + (o.s.length : Int)) : 0 ≤ enE p o ∧ enE p o ≤ (m : Int) := by
  obtain ⟨h1, h2, h3⟩ := ho
  have hs : 0 ≤ (o.s.length : Int) := by omega
  unfold enE
  generalize (o.s.length : Int) = s at *
  split <;> (try split) <;> omega
set_option maxRecDepth 10000 in
set_option maxHeartbeats 1000000 in
theorem move_any (p o : EdV) (w : World) (hp : InT 1000 p.e) (ho : SmE o.e) :
    Calls Try.prog 54 #[p.val, o.val] w fun e w' => e = .returned (p.mv o).val ∧ Below w.heap.size w w' := by
  have b1 := fun W => begin_any p.e.a o W ho ⟨hp.1, by have := hp.2.1; have := hp.2.2; omega⟩
  have e1 := fun W => end_any (p.e.a + p.e.d) o W ho ⟨by have := hp.1; have := hp.2.1; omega, hp.2.2⟩
  have rb := bgE_in (n := 1000) (m := (1000 - o.e.d + (o.e.s.length : Int)).toNat) (p := p.e.a) ⟨hp.1, by have := hp.2.1; have := hp.2.2; omega⟩ ho.1 (by have := ho.1.2.1; have := ho.1.2.2; have := ho.1.1; omega)
  have re := enE_in (n := 1000) (m := (1000 - o.e.d + (o.e.s.length : Int)).toNat) (p := p.e.a + p.e.d) ⟨by have := hp.1; have := hp.2.1; omega, hp.2.2⟩ ho.1 (by have := ho.1.2.1; have := ho.1.2.2; have := ho.1.1; omega)
  have hm : (1000 - o.e.d + (o.e.s.length : Int)).toNat ≤ 2000 := by have := ho.1.2.1; have := ho.2; omega
  have hmv : (p.mv o).val = .agg #[.int .i64 (bgE p.e.a o.e), .int .i64 (if 0 < p.e.d then max 0 (enE (p.e.a + p.e.d) o.e - bgE p.e.a o.e) else 0), p.ins] := rfl
  rw [hmv]
  generalize (1000 - o.e.d + (o.e.s.length : Int)).toNat = m at *
  generalize bgE p.e.a o.e = x at *
  generalize enE (p.e.a + p.e.d) o.e = y at *
  obtain ⟨⟨a, d, s⟩, ao, c⟩ := p
  obtain ⟨⟨a', d', s'⟩, ao', c'⟩ := o
  obtain ⟨h1, h2, h3⟩ := hp
  unfold EdV.val EdV.ins Ed.val at *
  simp only at h1 h2 h3 b1 e1 ⊢
  obtain ⟨r, hr⟩ : ∃ r, (if 0 < d then max 0 (y - x) else 0) = r := ⟨_, rfl⟩
  rw [hr]
  have HR := Bx.mk hr
  have HB := Bx.mk b1
  clear hr
  have HE := Bx.mk e1
  clear hmv b1 e1 ho
  have CA := ((Box3.new w (.int .i64 a) (.int .i64 d) (.slice ao s.length c)).alloc (.cells #[.int .i64 a', .int .i64 d', .slice ao' s'.length c'] 45)).alloc (.cells #[.int .i64 0, .int .i64 0, .slice none 0 0] 45)
  have CB := (Box3.new (w.alloc (.cells #[.int .i64 a, .int .i64 d, .slice ao s.length c] 45)) (.int .i64 a') (.int .i64 d') (.slice ao' s'.length c')).alloc (.cells #[.int .i64 0, .int .i64 0, .slice none 0 0] 45)
  have CZ := Box3.new ((w.alloc (.cells #[.int .i64 a, .int .i64 d, .slice ao s.length c] 45)).alloc (.cells #[.int .i64 a', .int .i64 d', .slice ao' s'.length c'] 45)) (.int .i64 0) (.int .i64 0) (.slice none 0 0)
  have B0 := (((Below.refl w.heap.size w).alloc (Nat.le_refl _) (.cells #[.int .i64 a, .int .i64 d, .slice ao s.length c] 45)).alloc (by simp) (.cells #[.int .i64 a', .int .i64 d', .slice ao' s'.length c'] 45)).alloc (by simp; omega) (.cells #[.int .i64 0, .int .i64 0, .slice none 0 0] 45)
  simp only [World.size_alloc] at CB CZ
  go_enter Try.func54, Try.ntmps54
  go_upto_region 1 with fail
  generalize ((w.alloc (.cells #[.int .i64 a, .int .i64 d, .slice ao s.length c] 45)).alloc (.cells #[.int .i64 a', .int .i64 d', .slice ao' s'.length c'] 45)).alloc (.cells #[.int .i64 0, .int .i64 0, .slice none 0 0] 45) = w3 at *
  have k0 := CA.k0
  have j0 := CB.k0
  have j1 := CB.k1
  have j2 := CB.k2
  go_wp2_with fail
  refine (HB.out _).mono ?_
  rintro e w4 ⟨rfl, B4⟩
  have CA4 := CA.kept (B4.block _ CA.lt)
  have CB4 := CB.kept (B4.block _ CB.lt)
  have CZ4 := CZ.kept (B4.block _ CZ.lt)
  have B4 := bel B0 B4
  clear k0 j0 j1 j2 CA CB CZ B0 HB
  have k0 := CA4.k0
  have k1 := CA4.k1
  have k2 := CA4.k2
  have j0 := CB4.k0
  have j1 := CB4.k1
  have j2 := CB4.k2
  have z0 := CZ4.k0
  have z1 := CZ4.k1
  have z2 := CZ4.k2
  have zf := CZ4.fr
  by_cases hd : 0 < d
  · have hr := HR.out
    rw [if_pos hd] at hr
    have HR := Bx.mk hr
    clear hr
    go_wp2_with fail
    refine (HE.out _).mono ?_
    rintro e w5 ⟨rfl, B5⟩
    have CA5 := CA4.kept (B5.block _ CA4.lt)
    have CZ5 := CZ4.kept (B5.block _ CZ4.lt)
    have B5 := bel B4 B5
    clear k0 k1 k2 j0 j1 j2 z0 z1 z2 zf CA4 CB4 CZ4 B4
    have k2 := CA5.k2
    have z0 := CZ5.k0
    have z1 := CZ5.k1
    have z2 := CZ5.k2
    have zf := CZ5.fr
    have Bf := fun u v => threeV_below (b := w.heap.size + 1 + 1) B5 (by omega) (.int .i64 u) (.int .i64 v) (.slice ao s.length c)
    have hr := HR.out
    clear HR
    rcases Int.lt_or_le x y with hxy | hxy
    · rw [Int.max_eq_right (by omega)] at hr
      subst hr
      go_wp2_with fail
      refine bodyPost_ret (results_edit1 rfl _ rfl (threeV_box CZ5 _ _ _)) rfl ?_
      exact ⟨rfl, Bf _ _⟩
    · rw [Int.max_eq_left (by omega)] at hr
      subst hr
      go_wp2_with fail
      refine bodyPost_ret (results_edit1 rfl _ rfl (threeV_box CZ5 _ _ _)) rfl ?_
      exact ⟨rfl, Bf _ _⟩
  · have hr := HR.out
    rw [if_neg hd] at hr
    subst hr
    clear HR
    have Bf := fun u v => threeV_below (b := w.heap.size + 1 + 1) B4 (by omega) (.int .i64 u) (.int .i64 v) (.slice ao s.length c)
    go_wp2_with fail
    refine bodyPost_ret (results_edit1 rfl _ rfl (threeV_box CZ4 _ _ _)) rfl ?_
    exact ⟨rfl, Bf _ _⟩
end Go.Proofs.Ytpehnggglolnoaa
