/- The law TextDecodes: the states of its drawn region. -/
import Derived.Test.YtcknnlbfbjcjjaaDoorTxtD1
import Derived.Test.YtcknnlbfbjcjjaaDoorTxtR1
import Derived.Deep.Cut
import Derived.Deep.CutRange
namespace Go.Proofs.YtcknnlbfbjcjjaaDoor
open Go.RowKit

theorem wpAny_cast {P : Program} {md : Region.Mode} {ops : Array Oper} {Q : Exit → Act → World → Prop} {f : Nat} {l l' : Array Bool} {a : Act} {w : World} (e : l' = l) (h : wpAny P md ops Q f l' a w) : wpAny P md ops Q f l a w := e ▸ h

theorem run_app2E {P : Program} (w : World) {t e : TypeId} {z : Value} {size bytes : Nat} (E : Elem P t e z size bytes) (ty : TypeId) (base : Nat)
    (v : Value) (n : Nat) (xs : List Value) (hown : w.ownsRow base e size v n xs) (y : Value) (m : Nat) (news : List Value) (hy : Rv w y m news) (hl : news.length = m * size) (h1 : ∀ u ∈ news, u.oneCell' = true)
    (hbytes : (n + m) * bytes ≤ 140737488355328) (hbase : base ≤ w.heap.size) :
    ∃ v' w', (Builtin.append_ #[t, t] ty #[v, y]).run P w = .ok v' w' ∧ w'.ownsRow base e size v' (n + m) (xs ++ news) ∧ w.grownBy w' v.ownBlock ∧ SameOrNew w v v' := by
  obtain ⟨i, hi, hz, hsize, hby⟩ := info_parts E.info
  have hle : n + m ≤ (n + m) * bytes := Nat.le_mul_of_pos_right _ E.hby
  exact run_append_rd2 (P := P) w base t ty e i z size bytes E.ht hi hz hsize hby E.hzs E.hsz v n xs hown y m news hy hl h1 (by unfold maxLen; omega) hbytes hbase
/-- An append whose run is known, in a drawing region. -/
theorem step_run {P : Program} {w w' : World} {ops : Array Oper} {o : Oper} {a : Act} {K : Act → World → Prop} {Q : Exit → Act → World → Prop} {R : Prop} (hgd : o.guard = none) (s x : Operand) {t ty : TypeId}
    (ho : o.op = .call { callee := .builtin .append, args := #[s, x], argTypes := #[t, t] }) (hty : o.type = ty) {v y v' : Value} (hs : a.eval s = v) (hx : a.eval x = y)
    (hr : (Builtin.append_ #[t, t] ty #[v, y]).run P w = .ok v' w') (h : K (a.put o.dst v') w') : if Region.wanted o (yielded ops a.tmps) = true then Oper.wp P o a w K Q else R := by
  have hw : Region.wanted o (yielded ops a.tmps) = true := by simp [Region.wanted, hgd]
  rw [if_pos hw]
  subst hty
  unfold Oper.wp execOp
  simp only [ho, resolve, invoke, builtin, Sem.run_bind, Sem.run_pure, Result.andThen_ok, List.map_toArray, List.map_cons, List.map_nil, hs, hx, hr]
  exact h
theorem evalT {T : Array Value} {ds : List Deferred} {k : Nat} {v : Value} (h : T[k]? = some v) : Act.eval ⟨T, ds⟩ (.tmp k) = v := by
  simp [Act.eval, h]

theorem getD_of {T : Array Value} {k : Nat} (h : k < T.size) : T[k]? = some (T[k]?.getD undef) := by
  rw [Array.getElem?_eq_getElem h]; rfl
theorem frameD {T T0 : Array Value} (h : T.size = 96) (h0 : T0.size = 96)
    (hk : ∀ k, k ≠ 41 → k ≠ 43 → k ≠ 45 → k ≠ 47 → k ≠ 48 → k ≠ 54 → k ≠ 55 → k ≠ 57 → k ≠ 59 → k ≠ 60 → T[k]? = T0[k]?) :
    T = (((((((((T0.setIfInBounds 41 (T[41]?.getD undef)).setIfInBounds 43 (T[43]?.getD undef)).setIfInBounds 45 (T[45]?.getD undef)).setIfInBounds 47 (T[47]?.getD undef)).setIfInBounds 48 (T[48]?.getD undef)).setIfInBounds 54 (T[54]?.getD undef)).setIfInBounds 55 (T[55]?.getD undef)).setIfInBounds 57 (T[57]?.getD undef)).setIfInBounds 59 (T[59]?.getD undef)).setIfInBounds 60 (T[60]?.getD undef) := by
  apply Array.ext_getElem?
  intro i
  by_cases h60 : i = 60
  · subst h60; rw [tset_self _ _ (by simp [h0])]; exact getD_of (by omega)
  rw [tset_ne _ _ h60]
  by_cases h59 : i = 59
  · subst h59; rw [tset_self _ _ (by simp [h0])]; exact getD_of (by omega)
  rw [tset_ne _ _ h59]
  by_cases h57 : i = 57
  · subst h57; rw [tset_self _ _ (by simp [h0])]; exact getD_of (by omega)
  rw [tset_ne _ _ h57]
  by_cases h55 : i = 55
  · subst h55; rw [tset_self _ _ (by simp [h0])]; exact getD_of (by omega)
  rw [tset_ne _ _ h55]
  by_cases h54 : i = 54
  · subst h54; rw [tset_self _ _ (by simp [h0])]; exact getD_of (by omega)
  rw [tset_ne _ _ h54]
  by_cases h48 : i = 48
  · subst h48; rw [tset_self _ _ (by simp [h0])]; exact getD_of (by omega)
  rw [tset_ne _ _ h48]
  by_cases h47 : i = 47
  · subst h47; rw [tset_self _ _ (by simp [h0])]; exact getD_of (by omega)
  rw [tset_ne _ _ h47]
  by_cases h45 : i = 45
  · subst h45; rw [tset_self _ _ (by simp [h0])]; exact getD_of (by omega)
  rw [tset_ne _ _ h45]
  by_cases h43 : i = 43
  · subst h43; rw [tset_self _ _ (by simp [h0])]; exact getD_of (by omega)
  rw [tset_ne _ _ h43]
  by_cases h41 : i = 41
  · subst h41; rw [tset_self _ _ (by simp [h0])]; exact getD_of (by omega)
  rw [tset_ne _ _ h41]
  exact hk i h41 h43 h45 h47 h48 h54 h55 h57 h59 h60

/-- The operations of a function's region. -/
def regionOf : Code → Nat → Option (Array Oper)
  | .region i ops _, k => if i == k then some ops else none
  | .seq a b, k => (regionOf a k).or (regionOf b k)
  | .cond _ a b, k => (regionOf a k).or (regionOf b k)
  | .block _ b, k => regionOf b k
  | .loop b, k => regionOf b k
  | .rangeFunc _ _ a b, k => (regionOf a k).or (regionOf b k)
  | _, _ => none
def opsDS : { x : Array Oper // (Tryd.f3.body.bind (regionOf · 5)) = some x } := by
  refine ⟨?_, ?_⟩
  rotate_left
  · exact rfl
def opsD : Array Oper := opsDS.1
/-- What the states share. -/
structure CtxD (md : Region.Mode) (Q : Exit → Act → World → Prop) (ds : List Deferred) (G : Nat → Array Bool → Array Value → World → Prop) (w wc : World) (T0 : Array Value) (b raw : List UInt8) (c : UInt8) (cut : Int) (ab ar a3 : Option Addr) (cb cr c3 : Nat) : Prop where
  hG : ∀ f l t w, wpAny Tryd.prog md opsD Q f l ⟨t, ds⟩ w → G f l t w
  hG' : ∀ f l t w, G f l t w → wpAny Tryd.prog md opsD Q f l ⟨t, ds⟩ w
  e39 : T0[39]? = some (.slice ab b.length cb)
  e40 : T0[40]? = some (.slice ar raw.length cr)
  e42 : T0[42]? = some (.slice a3 b.length c3)
  e44 : T0[44]? = some (.slice ab b.length cb)
  e46 : T0[46]? = some (.int .u8 (c.toNat : Int))
  e49 : T0[49]? = some (.slice ab b.length cb)
  e50 : T0[50]? = some (.int .i64 cut)
  e53 : T0[53]? = some (.int .i64 ((b.length : Int) + 1))
  e56 : T0[56]? = some (.int .u8 (c.toNat : Int))
  e58 : T0[58]? = some (.slice ar raw.length cr)
  hr : Rv w (.slice ar raw.length cr) raw.length (raw.map vB)
  R3 : Rv wc (.slice ab b.length cb) b.length (b.map vB)
  B3 : Below w.heap.size w wc
  HC : Hid (-9223372036854775808 ≤ cut ∧ cut ≤ 9223372036854775807)
  hel : b.length ≤ 80
  hbc : b.length ≤ cb
  hQ : ∀ c (u v : Array Value) d w, Q (.panic c) ⟨u, d⟩ w → Q (.panic c) ⟨v, d⟩ w
section
variable {md : Region.Mode} {Q : Exit → Act → World → Prop} {ds : List Deferred} {G : Nat → Array Bool → Array Value → World → Prop} {w wc : World} {T0 : Array Value} {b raw : List UInt8} {c : UInt8} {cut : Int} {ab ar a3 : Option Addr} {cb cr c3 : Nat}
set_option maxRecDepth 20000 in
set_option maxHeartbeats 4000000 in
theorem st5111_any (X : CtxD md Q ds G w wc T0 b raw c cut ab ar a3 cb cr c3)
    (st6111 : ∀ (T : Array Value) (w5 : World), StD wc T0 b c ab cb 6 true true true T w5 → G 2 #[true, true, true, true, true, true, true, true, true, true, true, true, true, true, true, true, true, true, true, true, true, true, false, false] T w5) :
    ∀ (T : Array Value) (w5 : World), StD wc T0 b c ab cb 5 true true true T w5 → G 3 #[true, true, true, true, true, true, true, true, true, true, true, true, true, true, true, true, true, true, true, true, true, false, false, false] T w5 := by
  intro T w5 hs
  have hel := X.hel
  refine X.hG _ _ _ _ ?_
  simp only [opsD, opsDS]
  have t39 := (hs.keep 39 (by decide) (by decide) (by decide) (by decide) (by decide) (by decide) (by decide) (by decide) (by decide) (by decide)).trans X.e39
  have t40 := (hs.keep 40 (by decide) (by decide) (by decide) (by decide) (by decide) (by decide) (by decide) (by decide) (by decide) (by decide)).trans X.e40
  have t42 := (hs.keep 42 (by decide) (by decide) (by decide) (by decide) (by decide) (by decide) (by decide) (by decide) (by decide) (by decide)).trans X.e42
  have t44 := (hs.keep 44 (by decide) (by decide) (by decide) (by decide) (by decide) (by decide) (by decide) (by decide) (by decide) (by decide)).trans X.e44
  have t46 := (hs.keep 46 (by decide) (by decide) (by decide) (by decide) (by decide) (by decide) (by decide) (by decide) (by decide) (by decide)).trans X.e46
  have t49 := (hs.keep 49 (by decide) (by decide) (by decide) (by decide) (by decide) (by decide) (by decide) (by decide) (by decide) (by decide)).trans X.e49
  have t50 := (hs.keep 50 (by decide) (by decide) (by decide) (by decide) (by decide) (by decide) (by decide) (by decide) (by decide) (by decide)).trans X.e50
  have t53 := (hs.keep 53 (by decide) (by decide) (by decide) (by decide) (by decide) (by decide) (by decide) (by decide) (by decide) (by decide)).trans X.e53
  have t56 := (hs.keep 56 (by decide) (by decide) (by decide) (by decide) (by decide) (by decide) (by decide) (by decide) (by decide) (by decide)).trans X.e56
  have t58 := (hs.keep 58 (by decide) (by decide) (by decide) (by decide) (by decide) (by decide) (by decide) (by decide) (by decide) (by decide)).trans X.e58
  have hB5 := bel X.B3 hs.bel
  refine wpAny_ready (rs := [21]) (by kernel_rfl) (by simp) ?_
  refine AllReady.cons rfl (fun K hK => ?_) (AllReady.nil)
  · obtain ⟨vd, hd, hO⟩ := hs.s57 rfl (by omega)
    obtain ⟨vs, q, hvs, hq, hV⟩ := hs.s59 (by omega)
    obtain ⟨v6, w6, hr1, hr2, hr3, hr4⟩ := run_app2E (P := Tryd.prog) w5 Tryd.elB 23 wc.heap.size vd 1 [vB c] hO vs q.length (q.map vB) hV (by simp) (ones_B _) (by omega) hs.bel.size
    obtain ⟨k6, a6, c6, rfl⟩ := own_shape hr2
    have e6 := own_kk3 (Rv.of_own hr2)
    subst e6
    have hcq : 1 + q.length = (c :: q).length := by rw [List.length_cons]; omega
    have hr5 := Rv.of_own hr2
    rw [hcq] at hr5 hr1
    refine step_run rfl _ _ rfl rfl (evalT hd) (evalT hvs) hr1 ?_
    exact hK _ _ (wpAny_cast (by kernel_rfl) (X.hG' _ _ _ _ (st6111 _ _ (hs.c5 hd hr3 hr5 (by rw [List.length_cons]; omega)))))
set_option maxRecDepth 20000 in
set_option maxHeartbeats 4000000 in
theorem st4111_any (X : CtxD md Q ds G w wc T0 b raw c cut ab ar a3 cb cr c3)
    (st5111 : ∀ (T : Array Value) (w5 : World), StD wc T0 b c ab cb 5 true true true T w5 → G 3 #[true, true, true, true, true, true, true, true, true, true, true, true, true, true, true, true, true, true, true, true, true, false, false, false] T w5) :
    ∀ (T : Array Value) (w5 : World), StD wc T0 b c ab cb 4 true true true T w5 → G 4 #[true, true, true, true, true, true, true, true, true, true, true, true, true, true, true, true, true, true, true, true, false, false, false, false] T w5 := by
  intro T w5 hs
  have hel := X.hel
  refine X.hG _ _ _ _ ?_
  simp only [opsD, opsDS]
  have t39 := (hs.keep 39 (by decide) (by decide) (by decide) (by decide) (by decide) (by decide) (by decide) (by decide) (by decide) (by decide)).trans X.e39
  have t40 := (hs.keep 40 (by decide) (by decide) (by decide) (by decide) (by decide) (by decide) (by decide) (by decide) (by decide) (by decide)).trans X.e40
  have t42 := (hs.keep 42 (by decide) (by decide) (by decide) (by decide) (by decide) (by decide) (by decide) (by decide) (by decide) (by decide)).trans X.e42
  have t44 := (hs.keep 44 (by decide) (by decide) (by decide) (by decide) (by decide) (by decide) (by decide) (by decide) (by decide) (by decide)).trans X.e44
  have t46 := (hs.keep 46 (by decide) (by decide) (by decide) (by decide) (by decide) (by decide) (by decide) (by decide) (by decide) (by decide)).trans X.e46
  have t49 := (hs.keep 49 (by decide) (by decide) (by decide) (by decide) (by decide) (by decide) (by decide) (by decide) (by decide) (by decide)).trans X.e49
  have t50 := (hs.keep 50 (by decide) (by decide) (by decide) (by decide) (by decide) (by decide) (by decide) (by decide) (by decide) (by decide)).trans X.e50
  have t53 := (hs.keep 53 (by decide) (by decide) (by decide) (by decide) (by decide) (by decide) (by decide) (by decide) (by decide) (by decide)).trans X.e53
  have t56 := (hs.keep 56 (by decide) (by decide) (by decide) (by decide) (by decide) (by decide) (by decide) (by decide) (by decide) (by decide)).trans X.e56
  have t58 := (hs.keep 58 (by decide) (by decide) (by decide) (by decide) (by decide) (by decide) (by decide) (by decide) (by decide) (by decide)).trans X.e58
  have hB5 := bel X.B3 hs.bel
  refine wpAny_ready (rs := [20]) (by kernel_rfl) (by simp) ?_
  refine AllReady.cons rfl (fun K hK => ?_) (AllReady.nil)
  · go_simp
    refine (few_some _ raw 3 (by omega) w5 (X.hr.below hB5)).mono ?_
    rintro e w6 ⟨v6, q, _, hq, rfl, M6, R6⟩
    exact hK _ _ (wpAny_cast (by kernel_rfl) (X.hG' _ _ _ _ (st5111 _ _ (hs.c4 M6 hq))))
set_option maxRecDepth 20000 in
set_option maxHeartbeats 4000000 in
theorem st5110_any (X : CtxD md Q ds G w wc T0 b raw c cut ab ar a3 cb cr c3)
    (st5111 : ∀ (T : Array Value) (w5 : World), StD wc T0 b c ab cb 5 true true true T w5 → G 3 #[true, true, true, true, true, true, true, true, true, true, true, true, true, true, true, true, true, true, true, true, true, false, false, false] T w5) :
    ∀ (T : Array Value) (w5 : World), StD wc T0 b c ab cb 5 true true false T w5 → G 4 #[true, true, true, true, true, true, true, true, true, true, true, true, true, true, true, true, true, true, false, true, true, false, false, false] T w5 := by
  intro T w5 hs
  have hel := X.hel
  refine X.hG _ _ _ _ ?_
  simp only [opsD, opsDS]
  have t39 := (hs.keep 39 (by decide) (by decide) (by decide) (by decide) (by decide) (by decide) (by decide) (by decide) (by decide) (by decide)).trans X.e39
  have t40 := (hs.keep 40 (by decide) (by decide) (by decide) (by decide) (by decide) (by decide) (by decide) (by decide) (by decide) (by decide)).trans X.e40
  have t42 := (hs.keep 42 (by decide) (by decide) (by decide) (by decide) (by decide) (by decide) (by decide) (by decide) (by decide) (by decide)).trans X.e42
  have t44 := (hs.keep 44 (by decide) (by decide) (by decide) (by decide) (by decide) (by decide) (by decide) (by decide) (by decide) (by decide)).trans X.e44
  have t46 := (hs.keep 46 (by decide) (by decide) (by decide) (by decide) (by decide) (by decide) (by decide) (by decide) (by decide) (by decide)).trans X.e46
  have t49 := (hs.keep 49 (by decide) (by decide) (by decide) (by decide) (by decide) (by decide) (by decide) (by decide) (by decide) (by decide)).trans X.e49
  have t50 := (hs.keep 50 (by decide) (by decide) (by decide) (by decide) (by decide) (by decide) (by decide) (by decide) (by decide) (by decide)).trans X.e50
  have t53 := (hs.keep 53 (by decide) (by decide) (by decide) (by decide) (by decide) (by decide) (by decide) (by decide) (by decide) (by decide)).trans X.e53
  have t56 := (hs.keep 56 (by decide) (by decide) (by decide) (by decide) (by decide) (by decide) (by decide) (by decide) (by decide) (by decide)).trans X.e56
  have t58 := (hs.keep 58 (by decide) (by decide) (by decide) (by decide) (by decide) (by decide) (by decide) (by decide) (by decide) (by decide)).trans X.e58
  have hB5 := bel X.B3 hs.bel
  refine wpAny_ready (rs := [18]) (by kernel_rfl) (by simp) ?_
  refine AllReady.cons rfl (fun K hK => ?_) (AllReady.nil)
  · go_simp
    exact hK _ _ (wpAny_cast (by kernel_rfl) (X.hG' _ _ _ _ (st5111 _ _ hs.f57)))
set_option maxRecDepth 20000 in
set_option maxHeartbeats 4000000 in
theorem st4110_any (X : CtxD md Q ds G w wc T0 b raw c cut ab ar a3 cb cr c3)
    (st4111 : ∀ (T : Array Value) (w5 : World), StD wc T0 b c ab cb 4 true true true T w5 → G 4 #[true, true, true, true, true, true, true, true, true, true, true, true, true, true, true, true, true, true, true, true, false, false, false, false] T w5)
    (st5110 : ∀ (T : Array Value) (w5 : World), StD wc T0 b c ab cb 5 true true false T w5 → G 4 #[true, true, true, true, true, true, true, true, true, true, true, true, true, true, true, true, true, true, false, true, true, false, false, false] T w5) :
    ∀ (T : Array Value) (w5 : World), StD wc T0 b c ab cb 4 true true false T w5 → G 5 #[true, true, true, true, true, true, true, true, true, true, true, true, true, true, true, true, true, true, false, true, false, false, false, false] T w5 := by
  intro T w5 hs
  have hel := X.hel
  refine X.hG _ _ _ _ ?_
  simp only [opsD, opsDS]
  have t39 := (hs.keep 39 (by decide) (by decide) (by decide) (by decide) (by decide) (by decide) (by decide) (by decide) (by decide) (by decide)).trans X.e39
  have t40 := (hs.keep 40 (by decide) (by decide) (by decide) (by decide) (by decide) (by decide) (by decide) (by decide) (by decide) (by decide)).trans X.e40
  have t42 := (hs.keep 42 (by decide) (by decide) (by decide) (by decide) (by decide) (by decide) (by decide) (by decide) (by decide) (by decide)).trans X.e42
  have t44 := (hs.keep 44 (by decide) (by decide) (by decide) (by decide) (by decide) (by decide) (by decide) (by decide) (by decide) (by decide)).trans X.e44
  have t46 := (hs.keep 46 (by decide) (by decide) (by decide) (by decide) (by decide) (by decide) (by decide) (by decide) (by decide) (by decide)).trans X.e46
  have t49 := (hs.keep 49 (by decide) (by decide) (by decide) (by decide) (by decide) (by decide) (by decide) (by decide) (by decide) (by decide)).trans X.e49
  have t50 := (hs.keep 50 (by decide) (by decide) (by decide) (by decide) (by decide) (by decide) (by decide) (by decide) (by decide) (by decide)).trans X.e50
  have t53 := (hs.keep 53 (by decide) (by decide) (by decide) (by decide) (by decide) (by decide) (by decide) (by decide) (by decide) (by decide)).trans X.e53
  have t56 := (hs.keep 56 (by decide) (by decide) (by decide) (by decide) (by decide) (by decide) (by decide) (by decide) (by decide) (by decide)).trans X.e56
  have t58 := (hs.keep 58 (by decide) (by decide) (by decide) (by decide) (by decide) (by decide) (by decide) (by decide) (by decide) (by decide)).trans X.e58
  have hB5 := bel X.B3 hs.bel
  refine wpAny_ready (rs := [18, 20]) (by kernel_rfl) (by simp) ?_
  refine AllReady.cons rfl (fun K hK => ?_) (AllReady.cons rfl (fun K hK => ?_) (AllReady.nil))
  · go_simp
    exact hK _ _ (wpAny_cast (by kernel_rfl) (X.hG' _ _ _ _ (st4111 _ _ hs.f57)))
  · go_simp
    refine (few_some _ raw 3 (by omega) w5 (X.hr.below hB5)).mono ?_
    rintro e w6 ⟨v6, q, _, hq, rfl, M6, R6⟩
    exact hK _ _ (wpAny_cast (by kernel_rfl) (X.hG' _ _ _ _ (st5110 _ _ (hs.c4 M6 hq))))
set_option maxRecDepth 20000 in
set_option maxHeartbeats 4000000 in
theorem st3111_any (X : CtxD md Q ds G w wc T0 b raw c cut ab ar a3 cb cr c3)
    (st4111 : ∀ (T : Array Value) (w5 : World), StD wc T0 b c ab cb 4 true true true T w5 → G 4 #[true, true, true, true, true, true, true, true, true, true, true, true, true, true, true, true, true, true, true, true, false, false, false, false] T w5) :
    ∀ (T : Array Value) (w5 : World), StD wc T0 b c ab cb 3 true true true T w5 → G 6 #[true, true, true, true, true, true, true, true, true, true, true, true, true, true, true, false, false, true, true, true, false, false, false, false] T w5 := by
  intro T w5 hs
  have hel := X.hel
  refine X.hG _ _ _ _ ?_
  simp only [opsD, opsDS]
  have t39 := (hs.keep 39 (by decide) (by decide) (by decide) (by decide) (by decide) (by decide) (by decide) (by decide) (by decide) (by decide)).trans X.e39
  have t40 := (hs.keep 40 (by decide) (by decide) (by decide) (by decide) (by decide) (by decide) (by decide) (by decide) (by decide) (by decide)).trans X.e40
  have t42 := (hs.keep 42 (by decide) (by decide) (by decide) (by decide) (by decide) (by decide) (by decide) (by decide) (by decide) (by decide)).trans X.e42
  have t44 := (hs.keep 44 (by decide) (by decide) (by decide) (by decide) (by decide) (by decide) (by decide) (by decide) (by decide) (by decide)).trans X.e44
  have t46 := (hs.keep 46 (by decide) (by decide) (by decide) (by decide) (by decide) (by decide) (by decide) (by decide) (by decide) (by decide)).trans X.e46
  have t49 := (hs.keep 49 (by decide) (by decide) (by decide) (by decide) (by decide) (by decide) (by decide) (by decide) (by decide) (by decide)).trans X.e49
  have t50 := (hs.keep 50 (by decide) (by decide) (by decide) (by decide) (by decide) (by decide) (by decide) (by decide) (by decide) (by decide)).trans X.e50
  have t53 := (hs.keep 53 (by decide) (by decide) (by decide) (by decide) (by decide) (by decide) (by decide) (by decide) (by decide) (by decide)).trans X.e53
  have t56 := (hs.keep 56 (by decide) (by decide) (by decide) (by decide) (by decide) (by decide) (by decide) (by decide) (by decide) (by decide)).trans X.e56
  have t58 := (hs.keep 58 (by decide) (by decide) (by decide) (by decide) (by decide) (by decide) (by decide) (by decide) (by decide) (by decide)).trans X.e58
  have hB5 := bel X.B3 hs.bel
  refine wpAny_ready (rs := [15]) (by kernel_rfl) (by simp) ?_
  refine AllReady.cons rfl (fun K hK => ?_) (AllReady.nil)
  · have har := around_any cut ((b.length : Int) + 1) (by omega) X.HC.out.1 X.HC.out.2 (by omega) w5
    obtain ⟨k, hk, hkl⟩ : ∃ k : Nat, around cut ((b.length : Int) + 1) = (k : Int) ∧ k ≤ b.length := by
      have h1 := around_lo cut ((b.length : Int) + 1) (by omega)
      have h2 := around_hi cut ((b.length : Int) + 1) (by omega)
      exact ⟨(around cut ((b.length : Int) + 1)).toNat, by omega, by omega⟩
    rw [hk] at har
    go_simp
    refine har.mono ?_
    rintro e w6 ⟨rfl, rfl⟩
    refine hK _ _ ?_
    have hs2 := hs.c3 (.int .i64 (k : Int))
    have t54 : (T.setIfInBounds 54 (.int .i64 (k : Int)))[54]? = some (.int .i64 (k : Int)) := tset_self T _ (by rw [hs.size]; omega)
    have t49b : (T.setIfInBounds 54 (.int .i64 (k : Int)))[49]? = some (.slice ab b.length cb) := (tset_ne T _ (by omega)).trans t49
    have hbc := X.hbc
    refine wpAny_do (tmps := T.setIfInBounds 54 (.int .i64 (k : Int))) (v := .slice ab k cb) 16 55 rfl rfl (by kernel_rfl) (by kernel_rfl) (by kernel_rfl) X.hQ (by kernel_rfl) ?hx ?_
    case hx =>
      intro w
      have hki : (k : Int) ≤ (b.length : Int) := by omega
      have hkj : (k : Int) ≤ (cb : Int) := by omega
      generalize T.setIfInBounds 54 (.int .i64 (k : Int)) = T2 at *
      go_simp
    exact wpAny_cast (by kernel_rfl) (X.hG' _ _ _ _ (st4111 _ _ (hs2.c3b hkl)))
set_option maxRecDepth 20000 in
set_option maxHeartbeats 4000000 in
theorem st3110_any (X : CtxD md Q ds G w wc T0 b raw c cut ab ar a3 cb cr c3)
    (st4110 : ∀ (T : Array Value) (w5 : World), StD wc T0 b c ab cb 4 true true false T w5 → G 5 #[true, true, true, true, true, true, true, true, true, true, true, true, true, true, true, true, true, true, false, true, false, false, false, false] T w5)
    (st3111 : ∀ (T : Array Value) (w5 : World), StD wc T0 b c ab cb 3 true true true T w5 → G 6 #[true, true, true, true, true, true, true, true, true, true, true, true, true, true, true, false, false, true, true, true, false, false, false, false] T w5) :
    ∀ (T : Array Value) (w5 : World), StD wc T0 b c ab cb 3 true true false T w5 → G 7 #[true, true, true, true, true, true, true, true, true, true, true, true, true, true, true, false, false, true, false, true, false, false, false, false] T w5 := by
  intro T w5 hs
  have hel := X.hel
  refine X.hG _ _ _ _ ?_
  simp only [opsD, opsDS]
  have t39 := (hs.keep 39 (by decide) (by decide) (by decide) (by decide) (by decide) (by decide) (by decide) (by decide) (by decide) (by decide)).trans X.e39
  have t40 := (hs.keep 40 (by decide) (by decide) (by decide) (by decide) (by decide) (by decide) (by decide) (by decide) (by decide) (by decide)).trans X.e40
  have t42 := (hs.keep 42 (by decide) (by decide) (by decide) (by decide) (by decide) (by decide) (by decide) (by decide) (by decide) (by decide)).trans X.e42
  have t44 := (hs.keep 44 (by decide) (by decide) (by decide) (by decide) (by decide) (by decide) (by decide) (by decide) (by decide) (by decide)).trans X.e44
  have t46 := (hs.keep 46 (by decide) (by decide) (by decide) (by decide) (by decide) (by decide) (by decide) (by decide) (by decide) (by decide)).trans X.e46
  have t49 := (hs.keep 49 (by decide) (by decide) (by decide) (by decide) (by decide) (by decide) (by decide) (by decide) (by decide) (by decide)).trans X.e49
  have t50 := (hs.keep 50 (by decide) (by decide) (by decide) (by decide) (by decide) (by decide) (by decide) (by decide) (by decide) (by decide)).trans X.e50
  have t53 := (hs.keep 53 (by decide) (by decide) (by decide) (by decide) (by decide) (by decide) (by decide) (by decide) (by decide) (by decide)).trans X.e53
  have t56 := (hs.keep 56 (by decide) (by decide) (by decide) (by decide) (by decide) (by decide) (by decide) (by decide) (by decide) (by decide)).trans X.e56
  have t58 := (hs.keep 58 (by decide) (by decide) (by decide) (by decide) (by decide) (by decide) (by decide) (by decide) (by decide) (by decide)).trans X.e58
  have hB5 := bel X.B3 hs.bel
  refine wpAny_ready (rs := [15, 18]) (by kernel_rfl) (by simp) ?_
  refine AllReady.cons rfl (fun K hK => ?_) (AllReady.cons rfl (fun K hK => ?_) (AllReady.nil))
  · have har := around_any cut ((b.length : Int) + 1) (by omega) X.HC.out.1 X.HC.out.2 (by omega) w5
    obtain ⟨k, hk, hkl⟩ : ∃ k : Nat, around cut ((b.length : Int) + 1) = (k : Int) ∧ k ≤ b.length := by
      have h1 := around_lo cut ((b.length : Int) + 1) (by omega)
      have h2 := around_hi cut ((b.length : Int) + 1) (by omega)
      exact ⟨(around cut ((b.length : Int) + 1)).toNat, by omega, by omega⟩
    rw [hk] at har
    go_simp
    refine har.mono ?_
    rintro e w6 ⟨rfl, rfl⟩
    refine hK _ _ ?_
    have hs2 := hs.c3 (.int .i64 (k : Int))
    have t54 : (T.setIfInBounds 54 (.int .i64 (k : Int)))[54]? = some (.int .i64 (k : Int)) := tset_self T _ (by rw [hs.size]; omega)
    have t49b : (T.setIfInBounds 54 (.int .i64 (k : Int)))[49]? = some (.slice ab b.length cb) := (tset_ne T _ (by omega)).trans t49
    have hbc := X.hbc
    refine wpAny_do (tmps := T.setIfInBounds 54 (.int .i64 (k : Int))) (v := .slice ab k cb) 16 55 rfl rfl (by kernel_rfl) (by kernel_rfl) (by kernel_rfl) X.hQ (by kernel_rfl) ?hx ?_
    case hx =>
      intro w
      have hki : (k : Int) ≤ (b.length : Int) := by omega
      have hkj : (k : Int) ≤ (cb : Int) := by omega
      generalize T.setIfInBounds 54 (.int .i64 (k : Int)) = T2 at *
      go_simp
    exact wpAny_cast (by kernel_rfl) (X.hG' _ _ _ _ (st4110 _ _ (hs2.c3b hkl)))
  · go_simp
    exact hK _ _ (wpAny_cast (by kernel_rfl) (X.hG' _ _ _ _ (st3111 _ _ hs.f57)))
set_option maxRecDepth 20000 in
set_option maxHeartbeats 4000000 in
theorem st2111_any (X : CtxD md Q ds G w wc T0 b raw c cut ab ar a3 cb cr c3)
    (st3111 : ∀ (T : Array Value) (w5 : World), StD wc T0 b c ab cb 3 true true true T w5 → G 6 #[true, true, true, true, true, true, true, true, true, true, true, true, true, true, true, false, false, true, true, true, false, false, false, false] T w5) :
    ∀ (T : Array Value) (w5 : World), StD wc T0 b c ab cb 2 true true true T w5 → G 7 #[true, true, true, true, true, true, true, true, true, false, true, true, true, true, true, false, false, true, true, true, false, false, false, false] T w5 := by
  intro T w5 hs
  have hel := X.hel
  refine X.hG _ _ _ _ ?_
  simp only [opsD, opsDS]
  have t39 := (hs.keep 39 (by decide) (by decide) (by decide) (by decide) (by decide) (by decide) (by decide) (by decide) (by decide) (by decide)).trans X.e39
  have t40 := (hs.keep 40 (by decide) (by decide) (by decide) (by decide) (by decide) (by decide) (by decide) (by decide) (by decide) (by decide)).trans X.e40
  have t42 := (hs.keep 42 (by decide) (by decide) (by decide) (by decide) (by decide) (by decide) (by decide) (by decide) (by decide) (by decide)).trans X.e42
  have t44 := (hs.keep 44 (by decide) (by decide) (by decide) (by decide) (by decide) (by decide) (by decide) (by decide) (by decide) (by decide)).trans X.e44
  have t46 := (hs.keep 46 (by decide) (by decide) (by decide) (by decide) (by decide) (by decide) (by decide) (by decide) (by decide) (by decide)).trans X.e46
  have t49 := (hs.keep 49 (by decide) (by decide) (by decide) (by decide) (by decide) (by decide) (by decide) (by decide) (by decide) (by decide)).trans X.e49
  have t50 := (hs.keep 50 (by decide) (by decide) (by decide) (by decide) (by decide) (by decide) (by decide) (by decide) (by decide) (by decide)).trans X.e50
  have t53 := (hs.keep 53 (by decide) (by decide) (by decide) (by decide) (by decide) (by decide) (by decide) (by decide) (by decide) (by decide)).trans X.e53
  have t56 := (hs.keep 56 (by decide) (by decide) (by decide) (by decide) (by decide) (by decide) (by decide) (by decide) (by decide) (by decide)).trans X.e56
  have t58 := (hs.keep 58 (by decide) (by decide) (by decide) (by decide) (by decide) (by decide) (by decide) (by decide) (by decide) (by decide)).trans X.e58
  have hB5 := bel X.B3 hs.bel
  refine wpAny_ready (rs := [9]) (by kernel_rfl) (by simp) ?_
  refine AllReady.cons rfl (fun K hK => ?_) (AllReady.nil)
  · obtain ⟨vd, hd, hO⟩ := hs.s45 rfl
    obtain ⟨vs, hvs, hV⟩ := hs.s47 rfl (by omega)
    obtain ⟨v6, w6, hr1, hr2, hr3, hr4⟩ := run_app2E (P := Tryd.prog) w5 Tryd.elB 23 wc.heap.size vd b.length (b.map vB) hO vs 1 [vB c] hV rfl (ones1 _ rfl) (by omega) hs.bel.size
    obtain ⟨k6, a6, c6, rfl⟩ := own_shape hr2
    have e6 := own_kk3 (Rv.of_own hr2)
    subst e6
    refine step_run rfl _ _ rfl rfl (evalT hd) (evalT hvs) hr1 ?_
    exact hK _ _ (wpAny_cast (by kernel_rfl) (X.hG' _ _ _ _ (st3111 _ _ (hs.c2 hd hr3 (by rw [List.map_append]; exact hr2) hr4))))
set_option maxRecDepth 20000 in
set_option maxHeartbeats 4000000 in
theorem st2110_any (X : CtxD md Q ds G w wc T0 b raw c cut ab ar a3 cb cr c3)
    (st3110 : ∀ (T : Array Value) (w5 : World), StD wc T0 b c ab cb 3 true true false T w5 → G 7 #[true, true, true, true, true, true, true, true, true, true, true, true, true, true, true, false, false, true, false, true, false, false, false, false] T w5)
    (st2111 : ∀ (T : Array Value) (w5 : World), StD wc T0 b c ab cb 2 true true true T w5 → G 7 #[true, true, true, true, true, true, true, true, true, false, true, true, true, true, true, false, false, true, true, true, false, false, false, false] T w5) :
    ∀ (T : Array Value) (w5 : World), StD wc T0 b c ab cb 2 true true false T w5 → G 8 #[true, true, true, true, true, true, true, true, true, false, true, true, true, true, true, false, false, true, false, true, false, false, false, false] T w5 := by
  intro T w5 hs
  have hel := X.hel
  refine X.hG _ _ _ _ ?_
  simp only [opsD, opsDS]
  have t39 := (hs.keep 39 (by decide) (by decide) (by decide) (by decide) (by decide) (by decide) (by decide) (by decide) (by decide) (by decide)).trans X.e39
  have t40 := (hs.keep 40 (by decide) (by decide) (by decide) (by decide) (by decide) (by decide) (by decide) (by decide) (by decide) (by decide)).trans X.e40
  have t42 := (hs.keep 42 (by decide) (by decide) (by decide) (by decide) (by decide) (by decide) (by decide) (by decide) (by decide) (by decide)).trans X.e42
  have t44 := (hs.keep 44 (by decide) (by decide) (by decide) (by decide) (by decide) (by decide) (by decide) (by decide) (by decide) (by decide)).trans X.e44
  have t46 := (hs.keep 46 (by decide) (by decide) (by decide) (by decide) (by decide) (by decide) (by decide) (by decide) (by decide) (by decide)).trans X.e46
  have t49 := (hs.keep 49 (by decide) (by decide) (by decide) (by decide) (by decide) (by decide) (by decide) (by decide) (by decide) (by decide)).trans X.e49
  have t50 := (hs.keep 50 (by decide) (by decide) (by decide) (by decide) (by decide) (by decide) (by decide) (by decide) (by decide) (by decide)).trans X.e50
  have t53 := (hs.keep 53 (by decide) (by decide) (by decide) (by decide) (by decide) (by decide) (by decide) (by decide) (by decide) (by decide)).trans X.e53
  have t56 := (hs.keep 56 (by decide) (by decide) (by decide) (by decide) (by decide) (by decide) (by decide) (by decide) (by decide) (by decide)).trans X.e56
  have t58 := (hs.keep 58 (by decide) (by decide) (by decide) (by decide) (by decide) (by decide) (by decide) (by decide) (by decide) (by decide)).trans X.e58
  have hB5 := bel X.B3 hs.bel
  refine wpAny_ready (rs := [9, 18]) (by kernel_rfl) (by simp) ?_
  refine AllReady.cons rfl (fun K hK => ?_) (AllReady.cons rfl (fun K hK => ?_) (AllReady.nil))
  · obtain ⟨vd, hd, hO⟩ := hs.s45 rfl
    obtain ⟨vs, hvs, hV⟩ := hs.s47 rfl (by omega)
    obtain ⟨v6, w6, hr1, hr2, hr3, hr4⟩ := run_app2E (P := Tryd.prog) w5 Tryd.elB 23 wc.heap.size vd b.length (b.map vB) hO vs 1 [vB c] hV rfl (ones1 _ rfl) (by omega) hs.bel.size
    obtain ⟨k6, a6, c6, rfl⟩ := own_shape hr2
    have e6 := own_kk3 (Rv.of_own hr2)
    subst e6
    refine step_run rfl _ _ rfl rfl (evalT hd) (evalT hvs) hr1 ?_
    exact hK _ _ (wpAny_cast (by kernel_rfl) (X.hG' _ _ _ _ (st3110 _ _ (hs.c2 hd hr3 (by rw [List.map_append]; exact hr2) hr4))))
  · go_simp
    exact hK _ _ (wpAny_cast (by kernel_rfl) (X.hG' _ _ _ _ (st2111 _ _ hs.f57)))
set_option maxRecDepth 20000 in
set_option maxHeartbeats 4000000 in
theorem st2101_any (X : CtxD md Q ds G w wc T0 b raw c cut ab ar a3 cb cr c3)
    (st2111 : ∀ (T : Array Value) (w5 : World), StD wc T0 b c ab cb 2 true true true T w5 → G 7 #[true, true, true, true, true, true, true, true, true, false, true, true, true, true, true, false, false, true, true, true, false, false, false, false] T w5) :
    ∀ (T : Array Value) (w5 : World), StD wc T0 b c ab cb 2 true false true T w5 → G 8 #[true, true, true, true, true, true, true, true, false, false, true, true, true, true, true, false, false, true, true, true, false, false, false, false] T w5 := by
  intro T w5 hs
  have hel := X.hel
  refine X.hG _ _ _ _ ?_
  simp only [opsD, opsDS]
  have t39 := (hs.keep 39 (by decide) (by decide) (by decide) (by decide) (by decide) (by decide) (by decide) (by decide) (by decide) (by decide)).trans X.e39
  have t40 := (hs.keep 40 (by decide) (by decide) (by decide) (by decide) (by decide) (by decide) (by decide) (by decide) (by decide) (by decide)).trans X.e40
  have t42 := (hs.keep 42 (by decide) (by decide) (by decide) (by decide) (by decide) (by decide) (by decide) (by decide) (by decide) (by decide)).trans X.e42
  have t44 := (hs.keep 44 (by decide) (by decide) (by decide) (by decide) (by decide) (by decide) (by decide) (by decide) (by decide) (by decide)).trans X.e44
  have t46 := (hs.keep 46 (by decide) (by decide) (by decide) (by decide) (by decide) (by decide) (by decide) (by decide) (by decide) (by decide)).trans X.e46
  have t49 := (hs.keep 49 (by decide) (by decide) (by decide) (by decide) (by decide) (by decide) (by decide) (by decide) (by decide) (by decide)).trans X.e49
  have t50 := (hs.keep 50 (by decide) (by decide) (by decide) (by decide) (by decide) (by decide) (by decide) (by decide) (by decide) (by decide)).trans X.e50
  have t53 := (hs.keep 53 (by decide) (by decide) (by decide) (by decide) (by decide) (by decide) (by decide) (by decide) (by decide) (by decide)).trans X.e53
  have t56 := (hs.keep 56 (by decide) (by decide) (by decide) (by decide) (by decide) (by decide) (by decide) (by decide) (by decide) (by decide)).trans X.e56
  have t58 := (hs.keep 58 (by decide) (by decide) (by decide) (by decide) (by decide) (by decide) (by decide) (by decide) (by decide) (by decide)).trans X.e58
  have hB5 := bel X.B3 hs.bel
  refine wpAny_ready (rs := [8]) (by kernel_rfl) (by simp) ?_
  refine AllReady.cons rfl (fun K hK => ?_) (AllReady.nil)
  · go_simp
    exact hK _ _ (wpAny_cast (by kernel_rfl) (X.hG' _ _ _ _ (st2111 _ _ hs.f47)))
set_option maxRecDepth 20000 in
set_option maxHeartbeats 4000000 in
theorem st2100_any (X : CtxD md Q ds G w wc T0 b raw c cut ab ar a3 cb cr c3)
    (st2110 : ∀ (T : Array Value) (w5 : World), StD wc T0 b c ab cb 2 true true false T w5 → G 8 #[true, true, true, true, true, true, true, true, true, false, true, true, true, true, true, false, false, true, false, true, false, false, false, false] T w5)
    (st2101 : ∀ (T : Array Value) (w5 : World), StD wc T0 b c ab cb 2 true false true T w5 → G 8 #[true, true, true, true, true, true, true, true, false, false, true, true, true, true, true, false, false, true, true, true, false, false, false, false] T w5) :
    ∀ (T : Array Value) (w5 : World), StD wc T0 b c ab cb 2 true false false T w5 → G 9 #[true, true, true, true, true, true, true, true, false, false, true, true, true, true, true, false, false, true, false, true, false, false, false, false] T w5 := by
  intro T w5 hs
  have hel := X.hel
  refine X.hG _ _ _ _ ?_
  simp only [opsD, opsDS]
  have t39 := (hs.keep 39 (by decide) (by decide) (by decide) (by decide) (by decide) (by decide) (by decide) (by decide) (by decide) (by decide)).trans X.e39
  have t40 := (hs.keep 40 (by decide) (by decide) (by decide) (by decide) (by decide) (by decide) (by decide) (by decide) (by decide) (by decide)).trans X.e40
  have t42 := (hs.keep 42 (by decide) (by decide) (by decide) (by decide) (by decide) (by decide) (by decide) (by decide) (by decide) (by decide)).trans X.e42
  have t44 := (hs.keep 44 (by decide) (by decide) (by decide) (by decide) (by decide) (by decide) (by decide) (by decide) (by decide) (by decide)).trans X.e44
  have t46 := (hs.keep 46 (by decide) (by decide) (by decide) (by decide) (by decide) (by decide) (by decide) (by decide) (by decide) (by decide)).trans X.e46
  have t49 := (hs.keep 49 (by decide) (by decide) (by decide) (by decide) (by decide) (by decide) (by decide) (by decide) (by decide) (by decide)).trans X.e49
  have t50 := (hs.keep 50 (by decide) (by decide) (by decide) (by decide) (by decide) (by decide) (by decide) (by decide) (by decide) (by decide)).trans X.e50
  have t53 := (hs.keep 53 (by decide) (by decide) (by decide) (by decide) (by decide) (by decide) (by decide) (by decide) (by decide) (by decide)).trans X.e53
  have t56 := (hs.keep 56 (by decide) (by decide) (by decide) (by decide) (by decide) (by decide) (by decide) (by decide) (by decide) (by decide)).trans X.e56
  have t58 := (hs.keep 58 (by decide) (by decide) (by decide) (by decide) (by decide) (by decide) (by decide) (by decide) (by decide) (by decide)).trans X.e58
  have hB5 := bel X.B3 hs.bel
  refine wpAny_ready (rs := [8, 18]) (by kernel_rfl) (by simp) ?_
  refine AllReady.cons rfl (fun K hK => ?_) (AllReady.cons rfl (fun K hK => ?_) (AllReady.nil))
  · go_simp
    exact hK _ _ (wpAny_cast (by kernel_rfl) (X.hG' _ _ _ _ (st2110 _ _ hs.f47)))
  · go_simp
    exact hK _ _ (wpAny_cast (by kernel_rfl) (X.hG' _ _ _ _ (st2101 _ _ hs.f57)))
set_option maxRecDepth 20000 in
set_option maxHeartbeats 4000000 in
theorem st1111_any (X : CtxD md Q ds G w wc T0 b raw c cut ab ar a3 cb cr c3)
    (st2111 : ∀ (T : Array Value) (w5 : World), StD wc T0 b c ab cb 2 true true true T w5 → G 7 #[true, true, true, true, true, true, true, true, true, false, true, true, true, true, true, false, false, true, true, true, false, false, false, false] T w5) :
    ∀ (T : Array Value) (w5 : World), StD wc T0 b c ab cb 1 true true true T w5 → G 8 #[true, true, true, true, true, true, false, true, true, false, true, true, true, true, true, false, false, true, true, true, false, false, false, false] T w5 := by
  intro T w5 hs
  have hel := X.hel
  refine X.hG _ _ _ _ ?_
  simp only [opsD, opsDS]
  have t39 := (hs.keep 39 (by decide) (by decide) (by decide) (by decide) (by decide) (by decide) (by decide) (by decide) (by decide) (by decide)).trans X.e39
  have t40 := (hs.keep 40 (by decide) (by decide) (by decide) (by decide) (by decide) (by decide) (by decide) (by decide) (by decide) (by decide)).trans X.e40
  have t42 := (hs.keep 42 (by decide) (by decide) (by decide) (by decide) (by decide) (by decide) (by decide) (by decide) (by decide) (by decide)).trans X.e42
  have t44 := (hs.keep 44 (by decide) (by decide) (by decide) (by decide) (by decide) (by decide) (by decide) (by decide) (by decide) (by decide)).trans X.e44
  have t46 := (hs.keep 46 (by decide) (by decide) (by decide) (by decide) (by decide) (by decide) (by decide) (by decide) (by decide) (by decide)).trans X.e46
  have t49 := (hs.keep 49 (by decide) (by decide) (by decide) (by decide) (by decide) (by decide) (by decide) (by decide) (by decide) (by decide)).trans X.e49
  have t50 := (hs.keep 50 (by decide) (by decide) (by decide) (by decide) (by decide) (by decide) (by decide) (by decide) (by decide) (by decide)).trans X.e50
  have t53 := (hs.keep 53 (by decide) (by decide) (by decide) (by decide) (by decide) (by decide) (by decide) (by decide) (by decide) (by decide)).trans X.e53
  have t56 := (hs.keep 56 (by decide) (by decide) (by decide) (by decide) (by decide) (by decide) (by decide) (by decide) (by decide) (by decide)).trans X.e56
  have t58 := (hs.keep 58 (by decide) (by decide) (by decide) (by decide) (by decide) (by decide) (by decide) (by decide) (by decide) (by decide)).trans X.e58
  have hB5 := bel X.B3 hs.bel
  refine wpAny_ready (rs := [6]) (by kernel_rfl) (by simp) ?_
  refine AllReady.cons rfl (fun K hK => ?_) (AllReady.nil)
  · obtain ⟨vd, hd, hO⟩ := hs.s43 rfl (by omega)
    obtain ⟨v6, w6, hr1, hr2, hr3, hr4⟩ := run_app2E (P := Tryd.prog) w5 Tryd.elB 23 wc.heap.size vd 0 [] hO (.slice ab b.length cb) b.length (b.map vB) (X.R3.below hs.bel) (by simp) (ones_B _) (by omega) hs.bel.size
    refine step_run rfl _ _ rfl rfl (evalT hd) (evalT t44) hr1 ?_
    exact hK _ _ (wpAny_cast (by kernel_rfl) (X.hG' _ _ _ _ (st2111 _ _ (hs.c1 hd hr3 (by simpa using hr2) hr4))))
set_option maxRecDepth 20000 in
set_option maxHeartbeats 4000000 in
theorem st1110_any (X : CtxD md Q ds G w wc T0 b raw c cut ab ar a3 cb cr c3)
    (st2110 : ∀ (T : Array Value) (w5 : World), StD wc T0 b c ab cb 2 true true false T w5 → G 8 #[true, true, true, true, true, true, true, true, true, false, true, true, true, true, true, false, false, true, false, true, false, false, false, false] T w5)
    (st1111 : ∀ (T : Array Value) (w5 : World), StD wc T0 b c ab cb 1 true true true T w5 → G 8 #[true, true, true, true, true, true, false, true, true, false, true, true, true, true, true, false, false, true, true, true, false, false, false, false] T w5) :
    ∀ (T : Array Value) (w5 : World), StD wc T0 b c ab cb 1 true true false T w5 → G 9 #[true, true, true, true, true, true, false, true, true, false, true, true, true, true, true, false, false, true, false, true, false, false, false, false] T w5 := by
  intro T w5 hs
  have hel := X.hel
  refine X.hG _ _ _ _ ?_
  simp only [opsD, opsDS]
  have t39 := (hs.keep 39 (by decide) (by decide) (by decide) (by decide) (by decide) (by decide) (by decide) (by decide) (by decide) (by decide)).trans X.e39
  have t40 := (hs.keep 40 (by decide) (by decide) (by decide) (by decide) (by decide) (by decide) (by decide) (by decide) (by decide) (by decide)).trans X.e40
  have t42 := (hs.keep 42 (by decide) (by decide) (by decide) (by decide) (by decide) (by decide) (by decide) (by decide) (by decide) (by decide)).trans X.e42
  have t44 := (hs.keep 44 (by decide) (by decide) (by decide) (by decide) (by decide) (by decide) (by decide) (by decide) (by decide) (by decide)).trans X.e44
  have t46 := (hs.keep 46 (by decide) (by decide) (by decide) (by decide) (by decide) (by decide) (by decide) (by decide) (by decide) (by decide)).trans X.e46
  have t49 := (hs.keep 49 (by decide) (by decide) (by decide) (by decide) (by decide) (by decide) (by decide) (by decide) (by decide) (by decide)).trans X.e49
  have t50 := (hs.keep 50 (by decide) (by decide) (by decide) (by decide) (by decide) (by decide) (by decide) (by decide) (by decide) (by decide)).trans X.e50
  have t53 := (hs.keep 53 (by decide) (by decide) (by decide) (by decide) (by decide) (by decide) (by decide) (by decide) (by decide) (by decide)).trans X.e53
  have t56 := (hs.keep 56 (by decide) (by decide) (by decide) (by decide) (by decide) (by decide) (by decide) (by decide) (by decide) (by decide)).trans X.e56
  have t58 := (hs.keep 58 (by decide) (by decide) (by decide) (by decide) (by decide) (by decide) (by decide) (by decide) (by decide) (by decide)).trans X.e58
  have hB5 := bel X.B3 hs.bel
  refine wpAny_ready (rs := [6, 18]) (by kernel_rfl) (by simp) ?_
  refine AllReady.cons rfl (fun K hK => ?_) (AllReady.cons rfl (fun K hK => ?_) (AllReady.nil))
  · obtain ⟨vd, hd, hO⟩ := hs.s43 rfl (by omega)
    obtain ⟨v6, w6, hr1, hr2, hr3, hr4⟩ := run_app2E (P := Tryd.prog) w5 Tryd.elB 23 wc.heap.size vd 0 [] hO (.slice ab b.length cb) b.length (b.map vB) (X.R3.below hs.bel) (by simp) (ones_B _) (by omega) hs.bel.size
    refine step_run rfl _ _ rfl rfl (evalT hd) (evalT t44) hr1 ?_
    exact hK _ _ (wpAny_cast (by kernel_rfl) (X.hG' _ _ _ _ (st2110 _ _ (hs.c1 hd hr3 (by simpa using hr2) hr4))))
  · go_simp
    exact hK _ _ (wpAny_cast (by kernel_rfl) (X.hG' _ _ _ _ (st1111 _ _ hs.f57)))
set_option maxRecDepth 20000 in
set_option maxHeartbeats 4000000 in
theorem st1101_any (X : CtxD md Q ds G w wc T0 b raw c cut ab ar a3 cb cr c3)
    (st2101 : ∀ (T : Array Value) (w5 : World), StD wc T0 b c ab cb 2 true false true T w5 → G 8 #[true, true, true, true, true, true, true, true, false, false, true, true, true, true, true, false, false, true, true, true, false, false, false, false] T w5)
    (st1111 : ∀ (T : Array Value) (w5 : World), StD wc T0 b c ab cb 1 true true true T w5 → G 8 #[true, true, true, true, true, true, false, true, true, false, true, true, true, true, true, false, false, true, true, true, false, false, false, false] T w5) :
    ∀ (T : Array Value) (w5 : World), StD wc T0 b c ab cb 1 true false true T w5 → G 9 #[true, true, true, true, true, true, false, true, false, false, true, true, true, true, true, false, false, true, true, true, false, false, false, false] T w5 := by
  intro T w5 hs
  have hel := X.hel
  refine X.hG _ _ _ _ ?_
  simp only [opsD, opsDS]
  have t39 := (hs.keep 39 (by decide) (by decide) (by decide) (by decide) (by decide) (by decide) (by decide) (by decide) (by decide) (by decide)).trans X.e39
  have t40 := (hs.keep 40 (by decide) (by decide) (by decide) (by decide) (by decide) (by decide) (by decide) (by decide) (by decide) (by decide)).trans X.e40
  have t42 := (hs.keep 42 (by decide) (by decide) (by decide) (by decide) (by decide) (by decide) (by decide) (by decide) (by decide) (by decide)).trans X.e42
  have t44 := (hs.keep 44 (by decide) (by decide) (by decide) (by decide) (by decide) (by decide) (by decide) (by decide) (by decide) (by decide)).trans X.e44
  have t46 := (hs.keep 46 (by decide) (by decide) (by decide) (by decide) (by decide) (by decide) (by decide) (by decide) (by decide) (by decide)).trans X.e46
  have t49 := (hs.keep 49 (by decide) (by decide) (by decide) (by decide) (by decide) (by decide) (by decide) (by decide) (by decide) (by decide)).trans X.e49
  have t50 := (hs.keep 50 (by decide) (by decide) (by decide) (by decide) (by decide) (by decide) (by decide) (by decide) (by decide) (by decide)).trans X.e50
  have t53 := (hs.keep 53 (by decide) (by decide) (by decide) (by decide) (by decide) (by decide) (by decide) (by decide) (by decide) (by decide)).trans X.e53
  have t56 := (hs.keep 56 (by decide) (by decide) (by decide) (by decide) (by decide) (by decide) (by decide) (by decide) (by decide) (by decide)).trans X.e56
  have t58 := (hs.keep 58 (by decide) (by decide) (by decide) (by decide) (by decide) (by decide) (by decide) (by decide) (by decide) (by decide)).trans X.e58
  have hB5 := bel X.B3 hs.bel
  refine wpAny_ready (rs := [6, 8]) (by kernel_rfl) (by simp) ?_
  refine AllReady.cons rfl (fun K hK => ?_) (AllReady.cons rfl (fun K hK => ?_) (AllReady.nil))
  · obtain ⟨vd, hd, hO⟩ := hs.s43 rfl (by omega)
    obtain ⟨v6, w6, hr1, hr2, hr3, hr4⟩ := run_app2E (P := Tryd.prog) w5 Tryd.elB 23 wc.heap.size vd 0 [] hO (.slice ab b.length cb) b.length (b.map vB) (X.R3.below hs.bel) (by simp) (ones_B _) (by omega) hs.bel.size
    refine step_run rfl _ _ rfl rfl (evalT hd) (evalT t44) hr1 ?_
    exact hK _ _ (wpAny_cast (by kernel_rfl) (X.hG' _ _ _ _ (st2101 _ _ (hs.c1 hd hr3 (by simpa using hr2) hr4))))
  · go_simp
    exact hK _ _ (wpAny_cast (by kernel_rfl) (X.hG' _ _ _ _ (st1111 _ _ hs.f47)))
set_option maxRecDepth 20000 in
set_option maxHeartbeats 4000000 in
theorem st1100_any (X : CtxD md Q ds G w wc T0 b raw c cut ab ar a3 cb cr c3)
    (st2100 : ∀ (T : Array Value) (w5 : World), StD wc T0 b c ab cb 2 true false false T w5 → G 9 #[true, true, true, true, true, true, true, true, false, false, true, true, true, true, true, false, false, true, false, true, false, false, false, false] T w5)
    (st1110 : ∀ (T : Array Value) (w5 : World), StD wc T0 b c ab cb 1 true true false T w5 → G 9 #[true, true, true, true, true, true, false, true, true, false, true, true, true, true, true, false, false, true, false, true, false, false, false, false] T w5)
    (st1101 : ∀ (T : Array Value) (w5 : World), StD wc T0 b c ab cb 1 true false true T w5 → G 9 #[true, true, true, true, true, true, false, true, false, false, true, true, true, true, true, false, false, true, true, true, false, false, false, false] T w5) :
    ∀ (T : Array Value) (w5 : World), StD wc T0 b c ab cb 1 true false false T w5 → G 10 #[true, true, true, true, true, true, false, true, false, false, true, true, true, true, true, false, false, true, false, true, false, false, false, false] T w5 := by
  intro T w5 hs
  have hel := X.hel
  refine X.hG _ _ _ _ ?_
  simp only [opsD, opsDS]
  have t39 := (hs.keep 39 (by decide) (by decide) (by decide) (by decide) (by decide) (by decide) (by decide) (by decide) (by decide) (by decide)).trans X.e39
  have t40 := (hs.keep 40 (by decide) (by decide) (by decide) (by decide) (by decide) (by decide) (by decide) (by decide) (by decide) (by decide)).trans X.e40
  have t42 := (hs.keep 42 (by decide) (by decide) (by decide) (by decide) (by decide) (by decide) (by decide) (by decide) (by decide) (by decide)).trans X.e42
  have t44 := (hs.keep 44 (by decide) (by decide) (by decide) (by decide) (by decide) (by decide) (by decide) (by decide) (by decide) (by decide)).trans X.e44
  have t46 := (hs.keep 46 (by decide) (by decide) (by decide) (by decide) (by decide) (by decide) (by decide) (by decide) (by decide) (by decide)).trans X.e46
  have t49 := (hs.keep 49 (by decide) (by decide) (by decide) (by decide) (by decide) (by decide) (by decide) (by decide) (by decide) (by decide)).trans X.e49
  have t50 := (hs.keep 50 (by decide) (by decide) (by decide) (by decide) (by decide) (by decide) (by decide) (by decide) (by decide) (by decide)).trans X.e50
  have t53 := (hs.keep 53 (by decide) (by decide) (by decide) (by decide) (by decide) (by decide) (by decide) (by decide) (by decide) (by decide)).trans X.e53
  have t56 := (hs.keep 56 (by decide) (by decide) (by decide) (by decide) (by decide) (by decide) (by decide) (by decide) (by decide) (by decide)).trans X.e56
  have t58 := (hs.keep 58 (by decide) (by decide) (by decide) (by decide) (by decide) (by decide) (by decide) (by decide) (by decide) (by decide)).trans X.e58
  have hB5 := bel X.B3 hs.bel
  refine wpAny_ready (rs := [6, 8, 18]) (by kernel_rfl) (by simp) ?_
  refine AllReady.cons rfl (fun K hK => ?_) (AllReady.cons rfl (fun K hK => ?_) (AllReady.cons rfl (fun K hK => ?_) (AllReady.nil)))
  · obtain ⟨vd, hd, hO⟩ := hs.s43 rfl (by omega)
    obtain ⟨v6, w6, hr1, hr2, hr3, hr4⟩ := run_app2E (P := Tryd.prog) w5 Tryd.elB 23 wc.heap.size vd 0 [] hO (.slice ab b.length cb) b.length (b.map vB) (X.R3.below hs.bel) (by simp) (ones_B _) (by omega) hs.bel.size
    refine step_run rfl _ _ rfl rfl (evalT hd) (evalT t44) hr1 ?_
    exact hK _ _ (wpAny_cast (by kernel_rfl) (X.hG' _ _ _ _ (st2100 _ _ (hs.c1 hd hr3 (by simpa using hr2) hr4))))
  · go_simp
    exact hK _ _ (wpAny_cast (by kernel_rfl) (X.hG' _ _ _ _ (st1110 _ _ hs.f47)))
  · go_simp
    exact hK _ _ (wpAny_cast (by kernel_rfl) (X.hG' _ _ _ _ (st1101 _ _ hs.f57)))
set_option maxRecDepth 20000 in
set_option maxHeartbeats 4000000 in
theorem st1011_any (X : CtxD md Q ds G w wc T0 b raw c cut ab ar a3 cb cr c3)
    (st1111 : ∀ (T : Array Value) (w5 : World), StD wc T0 b c ab cb 1 true true true T w5 → G 8 #[true, true, true, true, true, true, false, true, true, false, true, true, true, true, true, false, false, true, true, true, false, false, false, false] T w5) :
    ∀ (T : Array Value) (w5 : World), StD wc T0 b c ab cb 1 false true true T w5 → G 9 #[true, true, true, true, false, true, false, true, true, false, true, true, true, true, true, false, false, true, true, true, false, false, false, false] T w5 := by
  intro T w5 hs
  have hel := X.hel
  refine X.hG _ _ _ _ ?_
  simp only [opsD, opsDS]
  have t39 := (hs.keep 39 (by decide) (by decide) (by decide) (by decide) (by decide) (by decide) (by decide) (by decide) (by decide) (by decide)).trans X.e39
  have t40 := (hs.keep 40 (by decide) (by decide) (by decide) (by decide) (by decide) (by decide) (by decide) (by decide) (by decide) (by decide)).trans X.e40
  have t42 := (hs.keep 42 (by decide) (by decide) (by decide) (by decide) (by decide) (by decide) (by decide) (by decide) (by decide) (by decide)).trans X.e42
  have t44 := (hs.keep 44 (by decide) (by decide) (by decide) (by decide) (by decide) (by decide) (by decide) (by decide) (by decide) (by decide)).trans X.e44
  have t46 := (hs.keep 46 (by decide) (by decide) (by decide) (by decide) (by decide) (by decide) (by decide) (by decide) (by decide) (by decide)).trans X.e46
  have t49 := (hs.keep 49 (by decide) (by decide) (by decide) (by decide) (by decide) (by decide) (by decide) (by decide) (by decide) (by decide)).trans X.e49
  have t50 := (hs.keep 50 (by decide) (by decide) (by decide) (by decide) (by decide) (by decide) (by decide) (by decide) (by decide) (by decide)).trans X.e50
  have t53 := (hs.keep 53 (by decide) (by decide) (by decide) (by decide) (by decide) (by decide) (by decide) (by decide) (by decide) (by decide)).trans X.e53
  have t56 := (hs.keep 56 (by decide) (by decide) (by decide) (by decide) (by decide) (by decide) (by decide) (by decide) (by decide) (by decide)).trans X.e56
  have t58 := (hs.keep 58 (by decide) (by decide) (by decide) (by decide) (by decide) (by decide) (by decide) (by decide) (by decide) (by decide)).trans X.e58
  have hB5 := bel X.B3 hs.bel
  refine wpAny_ready (rs := [4]) (by kernel_rfl) (by simp) ?_
  refine AllReady.cons rfl (fun K hK => ?_) (AllReady.nil)
  · go_simp
    exact hK _ _ (wpAny_cast (by kernel_rfl) (X.hG' _ _ _ _ (st1111 _ _ hs.f43)))
set_option maxRecDepth 20000 in
set_option maxHeartbeats 4000000 in
theorem st1010_any (X : CtxD md Q ds G w wc T0 b raw c cut ab ar a3 cb cr c3)
    (st1110 : ∀ (T : Array Value) (w5 : World), StD wc T0 b c ab cb 1 true true false T w5 → G 9 #[true, true, true, true, true, true, false, true, true, false, true, true, true, true, true, false, false, true, false, true, false, false, false, false] T w5)
    (st1011 : ∀ (T : Array Value) (w5 : World), StD wc T0 b c ab cb 1 false true true T w5 → G 9 #[true, true, true, true, false, true, false, true, true, false, true, true, true, true, true, false, false, true, true, true, false, false, false, false] T w5) :
    ∀ (T : Array Value) (w5 : World), StD wc T0 b c ab cb 1 false true false T w5 → G 10 #[true, true, true, true, false, true, false, true, true, false, true, true, true, true, true, false, false, true, false, true, false, false, false, false] T w5 := by
  intro T w5 hs
  have hel := X.hel
  refine X.hG _ _ _ _ ?_
  simp only [opsD, opsDS]
  have t39 := (hs.keep 39 (by decide) (by decide) (by decide) (by decide) (by decide) (by decide) (by decide) (by decide) (by decide) (by decide)).trans X.e39
  have t40 := (hs.keep 40 (by decide) (by decide) (by decide) (by decide) (by decide) (by decide) (by decide) (by decide) (by decide) (by decide)).trans X.e40
  have t42 := (hs.keep 42 (by decide) (by decide) (by decide) (by decide) (by decide) (by decide) (by decide) (by decide) (by decide) (by decide)).trans X.e42
  have t44 := (hs.keep 44 (by decide) (by decide) (by decide) (by decide) (by decide) (by decide) (by decide) (by decide) (by decide) (by decide)).trans X.e44
  have t46 := (hs.keep 46 (by decide) (by decide) (by decide) (by decide) (by decide) (by decide) (by decide) (by decide) (by decide) (by decide)).trans X.e46
  have t49 := (hs.keep 49 (by decide) (by decide) (by decide) (by decide) (by decide) (by decide) (by decide) (by decide) (by decide) (by decide)).trans X.e49
  have t50 := (hs.keep 50 (by decide) (by decide) (by decide) (by decide) (by decide) (by decide) (by decide) (by decide) (by decide) (by decide)).trans X.e50
  have t53 := (hs.keep 53 (by decide) (by decide) (by decide) (by decide) (by decide) (by decide) (by decide) (by decide) (by decide) (by decide)).trans X.e53
  have t56 := (hs.keep 56 (by decide) (by decide) (by decide) (by decide) (by decide) (by decide) (by decide) (by decide) (by decide) (by decide)).trans X.e56
  have t58 := (hs.keep 58 (by decide) (by decide) (by decide) (by decide) (by decide) (by decide) (by decide) (by decide) (by decide) (by decide)).trans X.e58
  have hB5 := bel X.B3 hs.bel
  refine wpAny_ready (rs := [4, 18]) (by kernel_rfl) (by simp) ?_
  refine AllReady.cons rfl (fun K hK => ?_) (AllReady.cons rfl (fun K hK => ?_) (AllReady.nil))
  · go_simp
    exact hK _ _ (wpAny_cast (by kernel_rfl) (X.hG' _ _ _ _ (st1110 _ _ hs.f43)))
  · go_simp
    exact hK _ _ (wpAny_cast (by kernel_rfl) (X.hG' _ _ _ _ (st1011 _ _ hs.f57)))
set_option maxRecDepth 20000 in
set_option maxHeartbeats 4000000 in
theorem st1001_any (X : CtxD md Q ds G w wc T0 b raw c cut ab ar a3 cb cr c3)
    (st1101 : ∀ (T : Array Value) (w5 : World), StD wc T0 b c ab cb 1 true false true T w5 → G 9 #[true, true, true, true, true, true, false, true, false, false, true, true, true, true, true, false, false, true, true, true, false, false, false, false] T w5)
    (st1011 : ∀ (T : Array Value) (w5 : World), StD wc T0 b c ab cb 1 false true true T w5 → G 9 #[true, true, true, true, false, true, false, true, true, false, true, true, true, true, true, false, false, true, true, true, false, false, false, false] T w5) :
    ∀ (T : Array Value) (w5 : World), StD wc T0 b c ab cb 1 false false true T w5 → G 10 #[true, true, true, true, false, true, false, true, false, false, true, true, true, true, true, false, false, true, true, true, false, false, false, false] T w5 := by
  intro T w5 hs
  have hel := X.hel
  refine X.hG _ _ _ _ ?_
  simp only [opsD, opsDS]
  have t39 := (hs.keep 39 (by decide) (by decide) (by decide) (by decide) (by decide) (by decide) (by decide) (by decide) (by decide) (by decide)).trans X.e39
  have t40 := (hs.keep 40 (by decide) (by decide) (by decide) (by decide) (by decide) (by decide) (by decide) (by decide) (by decide) (by decide)).trans X.e40
  have t42 := (hs.keep 42 (by decide) (by decide) (by decide) (by decide) (by decide) (by decide) (by decide) (by decide) (by decide) (by decide)).trans X.e42
  have t44 := (hs.keep 44 (by decide) (by decide) (by decide) (by decide) (by decide) (by decide) (by decide) (by decide) (by decide) (by decide)).trans X.e44
  have t46 := (hs.keep 46 (by decide) (by decide) (by decide) (by decide) (by decide) (by decide) (by decide) (by decide) (by decide) (by decide)).trans X.e46
  have t49 := (hs.keep 49 (by decide) (by decide) (by decide) (by decide) (by decide) (by decide) (by decide) (by decide) (by decide) (by decide)).trans X.e49
  have t50 := (hs.keep 50 (by decide) (by decide) (by decide) (by decide) (by decide) (by decide) (by decide) (by decide) (by decide) (by decide)).trans X.e50
  have t53 := (hs.keep 53 (by decide) (by decide) (by decide) (by decide) (by decide) (by decide) (by decide) (by decide) (by decide) (by decide)).trans X.e53
  have t56 := (hs.keep 56 (by decide) (by decide) (by decide) (by decide) (by decide) (by decide) (by decide) (by decide) (by decide) (by decide)).trans X.e56
  have t58 := (hs.keep 58 (by decide) (by decide) (by decide) (by decide) (by decide) (by decide) (by decide) (by decide) (by decide) (by decide)).trans X.e58
  have hB5 := bel X.B3 hs.bel
  refine wpAny_ready (rs := [4, 8]) (by kernel_rfl) (by simp) ?_
  refine AllReady.cons rfl (fun K hK => ?_) (AllReady.cons rfl (fun K hK => ?_) (AllReady.nil))
  · go_simp
    exact hK _ _ (wpAny_cast (by kernel_rfl) (X.hG' _ _ _ _ (st1101 _ _ hs.f43)))
  · go_simp
    exact hK _ _ (wpAny_cast (by kernel_rfl) (X.hG' _ _ _ _ (st1011 _ _ hs.f47)))
set_option maxRecDepth 20000 in
set_option maxHeartbeats 4000000 in
theorem st1000_any (X : CtxD md Q ds G w wc T0 b raw c cut ab ar a3 cb cr c3)
    (st1100 : ∀ (T : Array Value) (w5 : World), StD wc T0 b c ab cb 1 true false false T w5 → G 10 #[true, true, true, true, true, true, false, true, false, false, true, true, true, true, true, false, false, true, false, true, false, false, false, false] T w5)
    (st1010 : ∀ (T : Array Value) (w5 : World), StD wc T0 b c ab cb 1 false true false T w5 → G 10 #[true, true, true, true, false, true, false, true, true, false, true, true, true, true, true, false, false, true, false, true, false, false, false, false] T w5)
    (st1001 : ∀ (T : Array Value) (w5 : World), StD wc T0 b c ab cb 1 false false true T w5 → G 10 #[true, true, true, true, false, true, false, true, false, false, true, true, true, true, true, false, false, true, true, true, false, false, false, false] T w5) :
    ∀ (T : Array Value) (w5 : World), StD wc T0 b c ab cb 1 false false false T w5 → G 11 #[true, true, true, true, false, true, false, true, false, false, true, true, true, true, true, false, false, true, false, true, false, false, false, false] T w5 := by
  intro T w5 hs
  have hel := X.hel
  refine X.hG _ _ _ _ ?_
  simp only [opsD, opsDS]
  have t39 := (hs.keep 39 (by decide) (by decide) (by decide) (by decide) (by decide) (by decide) (by decide) (by decide) (by decide) (by decide)).trans X.e39
  have t40 := (hs.keep 40 (by decide) (by decide) (by decide) (by decide) (by decide) (by decide) (by decide) (by decide) (by decide) (by decide)).trans X.e40
  have t42 := (hs.keep 42 (by decide) (by decide) (by decide) (by decide) (by decide) (by decide) (by decide) (by decide) (by decide) (by decide)).trans X.e42
  have t44 := (hs.keep 44 (by decide) (by decide) (by decide) (by decide) (by decide) (by decide) (by decide) (by decide) (by decide) (by decide)).trans X.e44
  have t46 := (hs.keep 46 (by decide) (by decide) (by decide) (by decide) (by decide) (by decide) (by decide) (by decide) (by decide) (by decide)).trans X.e46
  have t49 := (hs.keep 49 (by decide) (by decide) (by decide) (by decide) (by decide) (by decide) (by decide) (by decide) (by decide) (by decide)).trans X.e49
  have t50 := (hs.keep 50 (by decide) (by decide) (by decide) (by decide) (by decide) (by decide) (by decide) (by decide) (by decide) (by decide)).trans X.e50
  have t53 := (hs.keep 53 (by decide) (by decide) (by decide) (by decide) (by decide) (by decide) (by decide) (by decide) (by decide) (by decide)).trans X.e53
  have t56 := (hs.keep 56 (by decide) (by decide) (by decide) (by decide) (by decide) (by decide) (by decide) (by decide) (by decide) (by decide)).trans X.e56
  have t58 := (hs.keep 58 (by decide) (by decide) (by decide) (by decide) (by decide) (by decide) (by decide) (by decide) (by decide) (by decide)).trans X.e58
  have hB5 := bel X.B3 hs.bel
  refine wpAny_ready (rs := [4, 8, 18]) (by kernel_rfl) (by simp) ?_
  refine AllReady.cons rfl (fun K hK => ?_) (AllReady.cons rfl (fun K hK => ?_) (AllReady.cons rfl (fun K hK => ?_) (AllReady.nil)))
  · go_simp
    exact hK _ _ (wpAny_cast (by kernel_rfl) (X.hG' _ _ _ _ (st1100 _ _ hs.f43)))
  · go_simp
    exact hK _ _ (wpAny_cast (by kernel_rfl) (X.hG' _ _ _ _ (st1010 _ _ hs.f47)))
  · go_simp
    exact hK _ _ (wpAny_cast (by kernel_rfl) (X.hG' _ _ _ _ (st1001 _ _ hs.f57)))
set_option maxRecDepth 20000 in
set_option maxHeartbeats 4000000 in
theorem st0111_any (X : CtxD md Q ds G w wc T0 b raw c cut ab ar a3 cb cr c3)
    (st1111 : ∀ (T : Array Value) (w5 : World), StD wc T0 b c ab cb 1 true true true T w5 → G 8 #[true, true, true, true, true, true, false, true, true, false, true, true, true, true, true, false, false, true, true, true, false, false, false, false] T w5) :
    ∀ (T : Array Value) (w5 : World), StD wc T0 b c ab cb 0 true true true T w5 → G 9 #[true, true, false, true, true, true, false, true, true, false, true, true, true, true, true, false, false, true, true, true, false, false, false, false] T w5 := by
  intro T w5 hs
  have hel := X.hel
  refine X.hG _ _ _ _ ?_
  simp only [opsD, opsDS]
  have t39 := (hs.keep 39 (by decide) (by decide) (by decide) (by decide) (by decide) (by decide) (by decide) (by decide) (by decide) (by decide)).trans X.e39
  have t40 := (hs.keep 40 (by decide) (by decide) (by decide) (by decide) (by decide) (by decide) (by decide) (by decide) (by decide) (by decide)).trans X.e40
  have t42 := (hs.keep 42 (by decide) (by decide) (by decide) (by decide) (by decide) (by decide) (by decide) (by decide) (by decide) (by decide)).trans X.e42
  have t44 := (hs.keep 44 (by decide) (by decide) (by decide) (by decide) (by decide) (by decide) (by decide) (by decide) (by decide) (by decide)).trans X.e44
  have t46 := (hs.keep 46 (by decide) (by decide) (by decide) (by decide) (by decide) (by decide) (by decide) (by decide) (by decide) (by decide)).trans X.e46
  have t49 := (hs.keep 49 (by decide) (by decide) (by decide) (by decide) (by decide) (by decide) (by decide) (by decide) (by decide) (by decide)).trans X.e49
  have t50 := (hs.keep 50 (by decide) (by decide) (by decide) (by decide) (by decide) (by decide) (by decide) (by decide) (by decide) (by decide)).trans X.e50
  have t53 := (hs.keep 53 (by decide) (by decide) (by decide) (by decide) (by decide) (by decide) (by decide) (by decide) (by decide) (by decide)).trans X.e53
  have t56 := (hs.keep 56 (by decide) (by decide) (by decide) (by decide) (by decide) (by decide) (by decide) (by decide) (by decide) (by decide)).trans X.e56
  have t58 := (hs.keep 58 (by decide) (by decide) (by decide) (by decide) (by decide) (by decide) (by decide) (by decide) (by decide) (by decide)).trans X.e58
  have hB5 := bel X.B3 hs.bel
  refine wpAny_ready (rs := [2]) (by kernel_rfl) (by simp) ?_
  refine AllReady.cons rfl (fun K hK => ?_) (AllReady.nil)
  · go_simp
    refine (few_some _ raw 40 (by omega) w5 (X.hr.below hB5)).mono ?_
    rintro e w6 ⟨v6, q, _, hq, rfl, M6, R6⟩
    obtain ⟨a6, c6, rfl, _, _⟩ := R6.opened
    exact hK _ _ (wpAny_cast (by kernel_rfl) (X.hG' _ _ _ _ (st1111 _ _ (hs.c0 M6 hq))))
set_option maxRecDepth 20000 in
set_option maxHeartbeats 4000000 in
theorem st0110_any (X : CtxD md Q ds G w wc T0 b raw c cut ab ar a3 cb cr c3)
    (st1110 : ∀ (T : Array Value) (w5 : World), StD wc T0 b c ab cb 1 true true false T w5 → G 9 #[true, true, true, true, true, true, false, true, true, false, true, true, true, true, true, false, false, true, false, true, false, false, false, false] T w5)
    (st0111 : ∀ (T : Array Value) (w5 : World), StD wc T0 b c ab cb 0 true true true T w5 → G 9 #[true, true, false, true, true, true, false, true, true, false, true, true, true, true, true, false, false, true, true, true, false, false, false, false] T w5) :
    ∀ (T : Array Value) (w5 : World), StD wc T0 b c ab cb 0 true true false T w5 → G 10 #[true, true, false, true, true, true, false, true, true, false, true, true, true, true, true, false, false, true, false, true, false, false, false, false] T w5 := by
  intro T w5 hs
  have hel := X.hel
  refine X.hG _ _ _ _ ?_
  simp only [opsD, opsDS]
  have t39 := (hs.keep 39 (by decide) (by decide) (by decide) (by decide) (by decide) (by decide) (by decide) (by decide) (by decide) (by decide)).trans X.e39
  have t40 := (hs.keep 40 (by decide) (by decide) (by decide) (by decide) (by decide) (by decide) (by decide) (by decide) (by decide) (by decide)).trans X.e40
  have t42 := (hs.keep 42 (by decide) (by decide) (by decide) (by decide) (by decide) (by decide) (by decide) (by decide) (by decide) (by decide)).trans X.e42
  have t44 := (hs.keep 44 (by decide) (by decide) (by decide) (by decide) (by decide) (by decide) (by decide) (by decide) (by decide) (by decide)).trans X.e44
  have t46 := (hs.keep 46 (by decide) (by decide) (by decide) (by decide) (by decide) (by decide) (by decide) (by decide) (by decide) (by decide)).trans X.e46
  have t49 := (hs.keep 49 (by decide) (by decide) (by decide) (by decide) (by decide) (by decide) (by decide) (by decide) (by decide) (by decide)).trans X.e49
  have t50 := (hs.keep 50 (by decide) (by decide) (by decide) (by decide) (by decide) (by decide) (by decide) (by decide) (by decide) (by decide)).trans X.e50
  have t53 := (hs.keep 53 (by decide) (by decide) (by decide) (by decide) (by decide) (by decide) (by decide) (by decide) (by decide) (by decide)).trans X.e53
  have t56 := (hs.keep 56 (by decide) (by decide) (by decide) (by decide) (by decide) (by decide) (by decide) (by decide) (by decide) (by decide)).trans X.e56
  have t58 := (hs.keep 58 (by decide) (by decide) (by decide) (by decide) (by decide) (by decide) (by decide) (by decide) (by decide) (by decide)).trans X.e58
  have hB5 := bel X.B3 hs.bel
  refine wpAny_ready (rs := [2, 18]) (by kernel_rfl) (by simp) ?_
  refine AllReady.cons rfl (fun K hK => ?_) (AllReady.cons rfl (fun K hK => ?_) (AllReady.nil))
  · go_simp
    refine (few_some _ raw 40 (by omega) w5 (X.hr.below hB5)).mono ?_
    rintro e w6 ⟨v6, q, _, hq, rfl, M6, R6⟩
    obtain ⟨a6, c6, rfl, _, _⟩ := R6.opened
    exact hK _ _ (wpAny_cast (by kernel_rfl) (X.hG' _ _ _ _ (st1110 _ _ (hs.c0 M6 hq))))
  · go_simp
    exact hK _ _ (wpAny_cast (by kernel_rfl) (X.hG' _ _ _ _ (st0111 _ _ hs.f57)))
set_option maxRecDepth 20000 in
set_option maxHeartbeats 4000000 in
theorem st0101_any (X : CtxD md Q ds G w wc T0 b raw c cut ab ar a3 cb cr c3)
    (st1101 : ∀ (T : Array Value) (w5 : World), StD wc T0 b c ab cb 1 true false true T w5 → G 9 #[true, true, true, true, true, true, false, true, false, false, true, true, true, true, true, false, false, true, true, true, false, false, false, false] T w5)
    (st0111 : ∀ (T : Array Value) (w5 : World), StD wc T0 b c ab cb 0 true true true T w5 → G 9 #[true, true, false, true, true, true, false, true, true, false, true, true, true, true, true, false, false, true, true, true, false, false, false, false] T w5) :
    ∀ (T : Array Value) (w5 : World), StD wc T0 b c ab cb 0 true false true T w5 → G 10 #[true, true, false, true, true, true, false, true, false, false, true, true, true, true, true, false, false, true, true, true, false, false, false, false] T w5 := by
  intro T w5 hs
  have hel := X.hel
  refine X.hG _ _ _ _ ?_
  simp only [opsD, opsDS]
  have t39 := (hs.keep 39 (by decide) (by decide) (by decide) (by decide) (by decide) (by decide) (by decide) (by decide) (by decide) (by decide)).trans X.e39
  have t40 := (hs.keep 40 (by decide) (by decide) (by decide) (by decide) (by decide) (by decide) (by decide) (by decide) (by decide) (by decide)).trans X.e40
  have t42 := (hs.keep 42 (by decide) (by decide) (by decide) (by decide) (by decide) (by decide) (by decide) (by decide) (by decide) (by decide)).trans X.e42
  have t44 := (hs.keep 44 (by decide) (by decide) (by decide) (by decide) (by decide) (by decide) (by decide) (by decide) (by decide) (by decide)).trans X.e44
  have t46 := (hs.keep 46 (by decide) (by decide) (by decide) (by decide) (by decide) (by decide) (by decide) (by decide) (by decide) (by decide)).trans X.e46
  have t49 := (hs.keep 49 (by decide) (by decide) (by decide) (by decide) (by decide) (by decide) (by decide) (by decide) (by decide) (by decide)).trans X.e49
  have t50 := (hs.keep 50 (by decide) (by decide) (by decide) (by decide) (by decide) (by decide) (by decide) (by decide) (by decide) (by decide)).trans X.e50
  have t53 := (hs.keep 53 (by decide) (by decide) (by decide) (by decide) (by decide) (by decide) (by decide) (by decide) (by decide) (by decide)).trans X.e53
  have t56 := (hs.keep 56 (by decide) (by decide) (by decide) (by decide) (by decide) (by decide) (by decide) (by decide) (by decide) (by decide)).trans X.e56
  have t58 := (hs.keep 58 (by decide) (by decide) (by decide) (by decide) (by decide) (by decide) (by decide) (by decide) (by decide) (by decide)).trans X.e58
  have hB5 := bel X.B3 hs.bel
  refine wpAny_ready (rs := [2, 8]) (by kernel_rfl) (by simp) ?_
  refine AllReady.cons rfl (fun K hK => ?_) (AllReady.cons rfl (fun K hK => ?_) (AllReady.nil))
  · go_simp
    refine (few_some _ raw 40 (by omega) w5 (X.hr.below hB5)).mono ?_
    rintro e w6 ⟨v6, q, _, hq, rfl, M6, R6⟩
    obtain ⟨a6, c6, rfl, _, _⟩ := R6.opened
    exact hK _ _ (wpAny_cast (by kernel_rfl) (X.hG' _ _ _ _ (st1101 _ _ (hs.c0 M6 hq))))
  · go_simp
    exact hK _ _ (wpAny_cast (by kernel_rfl) (X.hG' _ _ _ _ (st0111 _ _ hs.f47)))
set_option maxRecDepth 20000 in
set_option maxHeartbeats 4000000 in
theorem st0100_any (X : CtxD md Q ds G w wc T0 b raw c cut ab ar a3 cb cr c3)
    (st1100 : ∀ (T : Array Value) (w5 : World), StD wc T0 b c ab cb 1 true false false T w5 → G 10 #[true, true, true, true, true, true, false, true, false, false, true, true, true, true, true, false, false, true, false, true, false, false, false, false] T w5)
    (st0110 : ∀ (T : Array Value) (w5 : World), StD wc T0 b c ab cb 0 true true false T w5 → G 10 #[true, true, false, true, true, true, false, true, true, false, true, true, true, true, true, false, false, true, false, true, false, false, false, false] T w5)
    (st0101 : ∀ (T : Array Value) (w5 : World), StD wc T0 b c ab cb 0 true false true T w5 → G 10 #[true, true, false, true, true, true, false, true, false, false, true, true, true, true, true, false, false, true, true, true, false, false, false, false] T w5) :
    ∀ (T : Array Value) (w5 : World), StD wc T0 b c ab cb 0 true false false T w5 → G 11 #[true, true, false, true, true, true, false, true, false, false, true, true, true, true, true, false, false, true, false, true, false, false, false, false] T w5 := by
  intro T w5 hs
  have hel := X.hel
  refine X.hG _ _ _ _ ?_
  simp only [opsD, opsDS]
  have t39 := (hs.keep 39 (by decide) (by decide) (by decide) (by decide) (by decide) (by decide) (by decide) (by decide) (by decide) (by decide)).trans X.e39
  have t40 := (hs.keep 40 (by decide) (by decide) (by decide) (by decide) (by decide) (by decide) (by decide) (by decide) (by decide) (by decide)).trans X.e40
  have t42 := (hs.keep 42 (by decide) (by decide) (by decide) (by decide) (by decide) (by decide) (by decide) (by decide) (by decide) (by decide)).trans X.e42
  have t44 := (hs.keep 44 (by decide) (by decide) (by decide) (by decide) (by decide) (by decide) (by decide) (by decide) (by decide) (by decide)).trans X.e44
  have t46 := (hs.keep 46 (by decide) (by decide) (by decide) (by decide) (by decide) (by decide) (by decide) (by decide) (by decide) (by decide)).trans X.e46
  have t49 := (hs.keep 49 (by decide) (by decide) (by decide) (by decide) (by decide) (by decide) (by decide) (by decide) (by decide) (by decide)).trans X.e49
  have t50 := (hs.keep 50 (by decide) (by decide) (by decide) (by decide) (by decide) (by decide) (by decide) (by decide) (by decide) (by decide)).trans X.e50
  have t53 := (hs.keep 53 (by decide) (by decide) (by decide) (by decide) (by decide) (by decide) (by decide) (by decide) (by decide) (by decide)).trans X.e53
  have t56 := (hs.keep 56 (by decide) (by decide) (by decide) (by decide) (by decide) (by decide) (by decide) (by decide) (by decide) (by decide)).trans X.e56
  have t58 := (hs.keep 58 (by decide) (by decide) (by decide) (by decide) (by decide) (by decide) (by decide) (by decide) (by decide) (by decide)).trans X.e58
  have hB5 := bel X.B3 hs.bel
  refine wpAny_ready (rs := [2, 8, 18]) (by kernel_rfl) (by simp) ?_
  refine AllReady.cons rfl (fun K hK => ?_) (AllReady.cons rfl (fun K hK => ?_) (AllReady.cons rfl (fun K hK => ?_) (AllReady.nil)))
  · go_simp
    refine (few_some _ raw 40 (by omega) w5 (X.hr.below hB5)).mono ?_
    rintro e w6 ⟨v6, q, _, hq, rfl, M6, R6⟩
    obtain ⟨a6, c6, rfl, _, _⟩ := R6.opened
    exact hK _ _ (wpAny_cast (by kernel_rfl) (X.hG' _ _ _ _ (st1100 _ _ (hs.c0 M6 hq))))
  · go_simp
    exact hK _ _ (wpAny_cast (by kernel_rfl) (X.hG' _ _ _ _ (st0110 _ _ hs.f47)))
  · go_simp
    exact hK _ _ (wpAny_cast (by kernel_rfl) (X.hG' _ _ _ _ (st0101 _ _ hs.f57)))
set_option maxRecDepth 20000 in
set_option maxHeartbeats 4000000 in
theorem st0011_any (X : CtxD md Q ds G w wc T0 b raw c cut ab ar a3 cb cr c3)
    (st1011 : ∀ (T : Array Value) (w5 : World), StD wc T0 b c ab cb 1 false true true T w5 → G 9 #[true, true, true, true, false, true, false, true, true, false, true, true, true, true, true, false, false, true, true, true, false, false, false, false] T w5)
    (st0111 : ∀ (T : Array Value) (w5 : World), StD wc T0 b c ab cb 0 true true true T w5 → G 9 #[true, true, false, true, true, true, false, true, true, false, true, true, true, true, true, false, false, true, true, true, false, false, false, false] T w5) :
    ∀ (T : Array Value) (w5 : World), StD wc T0 b c ab cb 0 false true true T w5 → G 10 #[true, true, false, true, false, true, false, true, true, false, true, true, true, true, true, false, false, true, true, true, false, false, false, false] T w5 := by
  intro T w5 hs
  have hel := X.hel
  refine X.hG _ _ _ _ ?_
  simp only [opsD, opsDS]
  have t39 := (hs.keep 39 (by decide) (by decide) (by decide) (by decide) (by decide) (by decide) (by decide) (by decide) (by decide) (by decide)).trans X.e39
  have t40 := (hs.keep 40 (by decide) (by decide) (by decide) (by decide) (by decide) (by decide) (by decide) (by decide) (by decide) (by decide)).trans X.e40
  have t42 := (hs.keep 42 (by decide) (by decide) (by decide) (by decide) (by decide) (by decide) (by decide) (by decide) (by decide) (by decide)).trans X.e42
  have t44 := (hs.keep 44 (by decide) (by decide) (by decide) (by decide) (by decide) (by decide) (by decide) (by decide) (by decide) (by decide)).trans X.e44
  have t46 := (hs.keep 46 (by decide) (by decide) (by decide) (by decide) (by decide) (by decide) (by decide) (by decide) (by decide) (by decide)).trans X.e46
  have t49 := (hs.keep 49 (by decide) (by decide) (by decide) (by decide) (by decide) (by decide) (by decide) (by decide) (by decide) (by decide)).trans X.e49
  have t50 := (hs.keep 50 (by decide) (by decide) (by decide) (by decide) (by decide) (by decide) (by decide) (by decide) (by decide) (by decide)).trans X.e50
  have t53 := (hs.keep 53 (by decide) (by decide) (by decide) (by decide) (by decide) (by decide) (by decide) (by decide) (by decide) (by decide)).trans X.e53
  have t56 := (hs.keep 56 (by decide) (by decide) (by decide) (by decide) (by decide) (by decide) (by decide) (by decide) (by decide) (by decide)).trans X.e56
  have t58 := (hs.keep 58 (by decide) (by decide) (by decide) (by decide) (by decide) (by decide) (by decide) (by decide) (by decide) (by decide)).trans X.e58
  have hB5 := bel X.B3 hs.bel
  refine wpAny_ready (rs := [2, 4]) (by kernel_rfl) (by simp) ?_
  refine AllReady.cons rfl (fun K hK => ?_) (AllReady.cons rfl (fun K hK => ?_) (AllReady.nil))
  · go_simp
    refine (few_some _ raw 40 (by omega) w5 (X.hr.below hB5)).mono ?_
    rintro e w6 ⟨v6, q, _, hq, rfl, M6, R6⟩
    obtain ⟨a6, c6, rfl, _, _⟩ := R6.opened
    exact hK _ _ (wpAny_cast (by kernel_rfl) (X.hG' _ _ _ _ (st1011 _ _ (hs.c0 M6 hq))))
  · go_simp
    exact hK _ _ (wpAny_cast (by kernel_rfl) (X.hG' _ _ _ _ (st0111 _ _ hs.f43)))
set_option maxRecDepth 20000 in
set_option maxHeartbeats 4000000 in
theorem st0010_any (X : CtxD md Q ds G w wc T0 b raw c cut ab ar a3 cb cr c3)
    (st1010 : ∀ (T : Array Value) (w5 : World), StD wc T0 b c ab cb 1 false true false T w5 → G 10 #[true, true, true, true, false, true, false, true, true, false, true, true, true, true, true, false, false, true, false, true, false, false, false, false] T w5)
    (st0110 : ∀ (T : Array Value) (w5 : World), StD wc T0 b c ab cb 0 true true false T w5 → G 10 #[true, true, false, true, true, true, false, true, true, false, true, true, true, true, true, false, false, true, false, true, false, false, false, false] T w5)
    (st0011 : ∀ (T : Array Value) (w5 : World), StD wc T0 b c ab cb 0 false true true T w5 → G 10 #[true, true, false, true, false, true, false, true, true, false, true, true, true, true, true, false, false, true, true, true, false, false, false, false] T w5) :
    ∀ (T : Array Value) (w5 : World), StD wc T0 b c ab cb 0 false true false T w5 → G 11 #[true, true, false, true, false, true, false, true, true, false, true, true, true, true, true, false, false, true, false, true, false, false, false, false] T w5 := by
  intro T w5 hs
  have hel := X.hel
  refine X.hG _ _ _ _ ?_
  simp only [opsD, opsDS]
  have t39 := (hs.keep 39 (by decide) (by decide) (by decide) (by decide) (by decide) (by decide) (by decide) (by decide) (by decide) (by decide)).trans X.e39
  have t40 := (hs.keep 40 (by decide) (by decide) (by decide) (by decide) (by decide) (by decide) (by decide) (by decide) (by decide) (by decide)).trans X.e40
  have t42 := (hs.keep 42 (by decide) (by decide) (by decide) (by decide) (by decide) (by decide) (by decide) (by decide) (by decide) (by decide)).trans X.e42
  have t44 := (hs.keep 44 (by decide) (by decide) (by decide) (by decide) (by decide) (by decide) (by decide) (by decide) (by decide) (by decide)).trans X.e44
  have t46 := (hs.keep 46 (by decide) (by decide) (by decide) (by decide) (by decide) (by decide) (by decide) (by decide) (by decide) (by decide)).trans X.e46
  have t49 := (hs.keep 49 (by decide) (by decide) (by decide) (by decide) (by decide) (by decide) (by decide) (by decide) (by decide) (by decide)).trans X.e49
  have t50 := (hs.keep 50 (by decide) (by decide) (by decide) (by decide) (by decide) (by decide) (by decide) (by decide) (by decide) (by decide)).trans X.e50
  have t53 := (hs.keep 53 (by decide) (by decide) (by decide) (by decide) (by decide) (by decide) (by decide) (by decide) (by decide) (by decide)).trans X.e53
  have t56 := (hs.keep 56 (by decide) (by decide) (by decide) (by decide) (by decide) (by decide) (by decide) (by decide) (by decide) (by decide)).trans X.e56
  have t58 := (hs.keep 58 (by decide) (by decide) (by decide) (by decide) (by decide) (by decide) (by decide) (by decide) (by decide) (by decide)).trans X.e58
  have hB5 := bel X.B3 hs.bel
  refine wpAny_ready (rs := [2, 4, 18]) (by kernel_rfl) (by simp) ?_
  refine AllReady.cons rfl (fun K hK => ?_) (AllReady.cons rfl (fun K hK => ?_) (AllReady.cons rfl (fun K hK => ?_) (AllReady.nil)))
  · go_simp
    refine (few_some _ raw 40 (by omega) w5 (X.hr.below hB5)).mono ?_
    rintro e w6 ⟨v6, q, _, hq, rfl, M6, R6⟩
    obtain ⟨a6, c6, rfl, _, _⟩ := R6.opened
    exact hK _ _ (wpAny_cast (by kernel_rfl) (X.hG' _ _ _ _ (st1010 _ _ (hs.c0 M6 hq))))
  · go_simp
    exact hK _ _ (wpAny_cast (by kernel_rfl) (X.hG' _ _ _ _ (st0110 _ _ hs.f43)))
  · go_simp
    exact hK _ _ (wpAny_cast (by kernel_rfl) (X.hG' _ _ _ _ (st0011 _ _ hs.f57)))
set_option maxRecDepth 20000 in
set_option maxHeartbeats 4000000 in
theorem st0001_any (X : CtxD md Q ds G w wc T0 b raw c cut ab ar a3 cb cr c3)
    (st1001 : ∀ (T : Array Value) (w5 : World), StD wc T0 b c ab cb 1 false false true T w5 → G 10 #[true, true, true, true, false, true, false, true, false, false, true, true, true, true, true, false, false, true, true, true, false, false, false, false] T w5)
    (st0101 : ∀ (T : Array Value) (w5 : World), StD wc T0 b c ab cb 0 true false true T w5 → G 10 #[true, true, false, true, true, true, false, true, false, false, true, true, true, true, true, false, false, true, true, true, false, false, false, false] T w5)
    (st0011 : ∀ (T : Array Value) (w5 : World), StD wc T0 b c ab cb 0 false true true T w5 → G 10 #[true, true, false, true, false, true, false, true, true, false, true, true, true, true, true, false, false, true, true, true, false, false, false, false] T w5) :
    ∀ (T : Array Value) (w5 : World), StD wc T0 b c ab cb 0 false false true T w5 → G 11 #[true, true, false, true, false, true, false, true, false, false, true, true, true, true, true, false, false, true, true, true, false, false, false, false] T w5 := by
  intro T w5 hs
  have hel := X.hel
  refine X.hG _ _ _ _ ?_
  simp only [opsD, opsDS]
  have t39 := (hs.keep 39 (by decide) (by decide) (by decide) (by decide) (by decide) (by decide) (by decide) (by decide) (by decide) (by decide)).trans X.e39
  have t40 := (hs.keep 40 (by decide) (by decide) (by decide) (by decide) (by decide) (by decide) (by decide) (by decide) (by decide) (by decide)).trans X.e40
  have t42 := (hs.keep 42 (by decide) (by decide) (by decide) (by decide) (by decide) (by decide) (by decide) (by decide) (by decide) (by decide)).trans X.e42
  have t44 := (hs.keep 44 (by decide) (by decide) (by decide) (by decide) (by decide) (by decide) (by decide) (by decide) (by decide) (by decide)).trans X.e44
  have t46 := (hs.keep 46 (by decide) (by decide) (by decide) (by decide) (by decide) (by decide) (by decide) (by decide) (by decide) (by decide)).trans X.e46
  have t49 := (hs.keep 49 (by decide) (by decide) (by decide) (by decide) (by decide) (by decide) (by decide) (by decide) (by decide) (by decide)).trans X.e49
  have t50 := (hs.keep 50 (by decide) (by decide) (by decide) (by decide) (by decide) (by decide) (by decide) (by decide) (by decide) (by decide)).trans X.e50
  have t53 := (hs.keep 53 (by decide) (by decide) (by decide) (by decide) (by decide) (by decide) (by decide) (by decide) (by decide) (by decide)).trans X.e53
  have t56 := (hs.keep 56 (by decide) (by decide) (by decide) (by decide) (by decide) (by decide) (by decide) (by decide) (by decide) (by decide)).trans X.e56
  have t58 := (hs.keep 58 (by decide) (by decide) (by decide) (by decide) (by decide) (by decide) (by decide) (by decide) (by decide) (by decide)).trans X.e58
  have hB5 := bel X.B3 hs.bel
  refine wpAny_ready (rs := [2, 4, 8]) (by kernel_rfl) (by simp) ?_
  refine AllReady.cons rfl (fun K hK => ?_) (AllReady.cons rfl (fun K hK => ?_) (AllReady.cons rfl (fun K hK => ?_) (AllReady.nil)))
  · go_simp
    refine (few_some _ raw 40 (by omega) w5 (X.hr.below hB5)).mono ?_
    rintro e w6 ⟨v6, q, _, hq, rfl, M6, R6⟩
    obtain ⟨a6, c6, rfl, _, _⟩ := R6.opened
    exact hK _ _ (wpAny_cast (by kernel_rfl) (X.hG' _ _ _ _ (st1001 _ _ (hs.c0 M6 hq))))
  · go_simp
    exact hK _ _ (wpAny_cast (by kernel_rfl) (X.hG' _ _ _ _ (st0101 _ _ hs.f43)))
  · go_simp
    exact hK _ _ (wpAny_cast (by kernel_rfl) (X.hG' _ _ _ _ (st0011 _ _ hs.f47)))
set_option maxRecDepth 20000 in
set_option maxHeartbeats 4000000 in
theorem st0000_any (X : CtxD md Q ds G w wc T0 b raw c cut ab ar a3 cb cr c3)
    (st1000 : ∀ (T : Array Value) (w5 : World), StD wc T0 b c ab cb 1 false false false T w5 → G 11 #[true, true, true, true, false, true, false, true, false, false, true, true, true, true, true, false, false, true, false, true, false, false, false, false] T w5)
    (st0100 : ∀ (T : Array Value) (w5 : World), StD wc T0 b c ab cb 0 true false false T w5 → G 11 #[true, true, false, true, true, true, false, true, false, false, true, true, true, true, true, false, false, true, false, true, false, false, false, false] T w5)
    (st0010 : ∀ (T : Array Value) (w5 : World), StD wc T0 b c ab cb 0 false true false T w5 → G 11 #[true, true, false, true, false, true, false, true, true, false, true, true, true, true, true, false, false, true, false, true, false, false, false, false] T w5)
    (st0001 : ∀ (T : Array Value) (w5 : World), StD wc T0 b c ab cb 0 false false true T w5 → G 11 #[true, true, false, true, false, true, false, true, false, false, true, true, true, true, true, false, false, true, true, true, false, false, false, false] T w5) :
    ∀ (T : Array Value) (w5 : World), StD wc T0 b c ab cb 0 false false false T w5 → G 12 #[true, true, false, true, false, true, false, true, false, false, true, true, true, true, true, false, false, true, false, true, false, false, false, false] T w5 := by
  intro T w5 hs
  have hel := X.hel
  refine X.hG _ _ _ _ ?_
  simp only [opsD, opsDS]
  have t39 := (hs.keep 39 (by decide) (by decide) (by decide) (by decide) (by decide) (by decide) (by decide) (by decide) (by decide) (by decide)).trans X.e39
  have t40 := (hs.keep 40 (by decide) (by decide) (by decide) (by decide) (by decide) (by decide) (by decide) (by decide) (by decide) (by decide)).trans X.e40
  have t42 := (hs.keep 42 (by decide) (by decide) (by decide) (by decide) (by decide) (by decide) (by decide) (by decide) (by decide) (by decide)).trans X.e42
  have t44 := (hs.keep 44 (by decide) (by decide) (by decide) (by decide) (by decide) (by decide) (by decide) (by decide) (by decide) (by decide)).trans X.e44
  have t46 := (hs.keep 46 (by decide) (by decide) (by decide) (by decide) (by decide) (by decide) (by decide) (by decide) (by decide) (by decide)).trans X.e46
  have t49 := (hs.keep 49 (by decide) (by decide) (by decide) (by decide) (by decide) (by decide) (by decide) (by decide) (by decide) (by decide)).trans X.e49
  have t50 := (hs.keep 50 (by decide) (by decide) (by decide) (by decide) (by decide) (by decide) (by decide) (by decide) (by decide) (by decide)).trans X.e50
  have t53 := (hs.keep 53 (by decide) (by decide) (by decide) (by decide) (by decide) (by decide) (by decide) (by decide) (by decide) (by decide)).trans X.e53
  have t56 := (hs.keep 56 (by decide) (by decide) (by decide) (by decide) (by decide) (by decide) (by decide) (by decide) (by decide) (by decide)).trans X.e56
  have t58 := (hs.keep 58 (by decide) (by decide) (by decide) (by decide) (by decide) (by decide) (by decide) (by decide) (by decide) (by decide)).trans X.e58
  have hB5 := bel X.B3 hs.bel
  refine wpAny_ready (rs := [2, 4, 8, 18]) (by kernel_rfl) (by simp) ?_
  refine AllReady.cons rfl (fun K hK => ?_) (AllReady.cons rfl (fun K hK => ?_) (AllReady.cons rfl (fun K hK => ?_) (AllReady.cons rfl (fun K hK => ?_) (AllReady.nil))))
  · go_simp
    refine (few_some _ raw 40 (by omega) w5 (X.hr.below hB5)).mono ?_
    rintro e w6 ⟨v6, q, _, hq, rfl, M6, R6⟩
    obtain ⟨a6, c6, rfl, _, _⟩ := R6.opened
    exact hK _ _ (wpAny_cast (by kernel_rfl) (X.hG' _ _ _ _ (st1000 _ _ (hs.c0 M6 hq))))
  · go_simp
    exact hK _ _ (wpAny_cast (by kernel_rfl) (X.hG' _ _ _ _ (st0100 _ _ hs.f43)))
  · go_simp
    exact hK _ _ (wpAny_cast (by kernel_rfl) (X.hG' _ _ _ _ (st0010 _ _ hs.f47)))
  · go_simp
    exact hK _ _ (wpAny_cast (by kernel_rfl) (X.hG' _ _ _ _ (st0001 _ _ hs.f57)))
end
end Go.Proofs.YtcknnlbfbjcjjaaDoor
