/- The model of package text: Undo. -/
import Derived.Test.YtcknnlbfbjcjjaaDoorTxtI
import Derived.Deep.RegionLaw
namespace Go.Proofs.YtcknnlbfbjcjjaaDoor
open Go.RowKit

/-- append of one element, at a step of a region that draws. -/
theorem step_app1 {P : Program} {w : World} {ops : Array Oper} {o : Oper} {a : Act} {K : Act → World → Prop} {Q : Exit → Act → World → Prop} {R : Prop} (hgd : o.guard = none) (s x : Operand) {t e : TypeId} {z : Value} {bytes : Nat}
    (ho : o.op = .call { callee := .builtin .append, args := #[s, x], argTypes := #[t, t] })
    (E : Elem P t e z 1 bytes) (base : Nat)
    (v : Value) (n : Nat) (xs : List Value) (hs : a.eval s = v) (hown : w.ownsRow base e 1 v n xs)
    (H : Nat) (u : Value) (hx : a.eval x = .slice (some ⟨H, 0, none⟩) 1 1) (hb : Rv w (.slice (some ⟨H, 0, none⟩) 1 1) 1 [u]) (h1 : u.oneCell' = true)
    (hbytes : (n + 1) * bytes ≤ 140737488355328) (hbase : base ≤ w.heap.size)
    (h : ∀ v' w', w'.ownsRow base e 1 v' (n + 1) (xs ++ [u]) → w.grownBy w' v.ownBlock → SameOrNew w v v' → K (a.put o.dst v') w') :
    if Region.wanted o (yielded ops a.tmps) = true then Oper.wp P o a w K Q else R := by
  have hw : Region.wanted o (yielded ops a.tmps) = true := by simp [Region.wanted, hgd]
  rw [if_pos hw]
  obtain ⟨i, hi, hz, hsize, hby⟩ := info_parts E.info
  have hle : n + 1 ≤ (n + 1) * bytes := Nat.le_mul_of_pos_right _ E.hby
  obtain ⟨v', w', hr, h2, h3, h4⟩ := run_append_rd2 (P := P) w base t o.type e i z 1 bytes E.ht hi hz hsize hby E.hzs E.hsz v n xs hown _ 1 [u] hb rfl (ones1 u h1) (by unfold maxLen; omega) hbytes hbase
  unfold Oper.wp execOp
  simp only [ho, resolve, invoke, builtin, Sem.run_bind, Sem.run_pure, Result.andThen_ok, List.map_toArray, List.map_cons, List.map_nil, hs, hx, hr]
  exact h v' w' h2 h3 h4

theorem results_edit1 {fn : Func} {p : Tmp} (hf : fn.results = #[.cell p 37]) (tmps : Array Value) {w : World} {b : Nat} {c0 c1 c2 : Value}
    (hp : tmps.getD p undef = .pointer (some ⟨b, 0, none⟩)) (h : Box3 w b c0 c1 c2) : (results fn tmps).run Tryd.prog w = .ok (.agg #[c0, c1, c2]) w := by
  have hp' : tmps[p]?.getD undef = .pointer (some ⟨b, 0, none⟩) := by simpa using hp
  have k0 := h.k0
  have k1 := h.k1
  have k2 := h.k2
  simp [results, hf, hp', go_sem, k0, k1, k2, Result.andThen]
theorem Box3.s2 {w : World} {b : Nat} {c0 c1 c2 : Value} (h : Box3 w b c0 c1 c2) (x : Value) : Box3 (w.setCell ⟨b, 2, none⟩ x) b c0 c1 x := heap_set3 h 2 x
theorem own_set {w : World} {base b : Nat} {e : TypeId} {size : Nat} {v : Value} {n : Nat} {xs : List Value} (h : w.ownsRow base e size v n xs) (hb : b < base) (j : Nat) (x : Value) : (w.setCell ⟨b, j, none⟩ x).ownsRow base e size v n xs := by
  obtain ⟨hl, h | ⟨g, cap, cur, rfl, hb1, hg, hn, hc, hs, ht⟩⟩ := h
  · exact ⟨hl, .inl h⟩
  · exact ⟨hl, .inr ⟨g, cap, cur, rfl, hb1, (Below.heap_setCell _ _ _ _ (by show g ≠ b; omega)).trans hg, hn, hc, hs, ht⟩⟩

/-- An edit with a new list. -/
def EdPost (w : World) (u : Ed) (en : Ending) (w' : World) : Prop := ∃ v', en = .returned (u.val v') ∧ w'.ownsRow w.heap.size 3 1 v' u.s.length (u.s.map (Value.int .i64)) ∧ Below w.heap.size w w'

set_option maxRecDepth 20000 in
set_option maxHeartbeats 4000000 in
theorem rundo_any (v : Value) (l : List Int) (A D : Nat) (es : List Int) (iv : Value) (w : World) (hv : Rv w v l.length (l.map (Value.int .i64))) (hi : Rv w iv es.length (es.map (Value.int .i64))) (hl : l.length ≤ 1000000) (hAD : A + D ≤ l.length) :
    Calls Tryd.prog 26 #[v, Ed.val ⟨(A : Int), (D : Int), es⟩ iv] w (EdPost w ⟨(A : Int), (es.length : Int), (l.drop A).take D⟩) := by
  obtain ⟨ao, cap, rfl, hcap, _⟩ := hv.opened
  obtain ⟨ai, ci, rfl, hci, _⟩ := hi.opened
  unfold Ed.val
  simp only
  have C0 := (Box3.new w (.int .i64 (A : Int)) (.int .i64 (D : Int)) (.slice ai es.length ci)).alloc (.cells #[.int .i64 0, .int .i64 0, .slice none 0 0] 37)
  have Z0 := Box3.new (w.alloc (.cells #[.int .i64 (A : Int), .int .i64 (D : Int), .slice ai es.length ci] 37)) (.int .i64 0) (.int .i64 0) (.slice none 0 0)
  rw [World.size_alloc] at Z0
  have k0 := C0.k0
  have k2 := C0.k2
  go_enter Tryd.func26, Tryd.ntmps26
  go_wp2_with fail
  obtain ⟨wz, hwz⟩ : ∃ wz, wz = (w.alloc (.cells #[.int .i64 (A : Int), .int .i64 (D : Int), .slice ai es.length ci] 37)).alloc (.cells #[.int .i64 0, .int .i64 0, .slice none 0 0] 37) := ⟨_, rfl⟩
  have hszz : wz.heap.size = w.heap.size + 2 := by rw [hwz]; simp
  have Bz : Below w.heap.size w wz := by rw [hwz]; exact ((Below.refl _ w).alloc (Nat.le_refl _) _).alloc (by simp) _
  rw [← hwz] at C0 Z0 ⊢
  clear hwz k0 k2
  have U0 := Box3.new wz (.int .i64 (A : Int)) (.int .i64 (es.length : Int)) (.slice none 0 0)
  rw [hszz] at U0
  obtain ⟨w0, hw0⟩ : ∃ w0, w0 = wz.alloc (.cells #[.int .i64 (A : Int), .int .i64 (es.length : Int), .slice none 0 0] 37) := ⟨_, rfl⟩
  have C1 := C0.alloc (.cells #[.int .i64 (A : Int), .int .i64 (es.length : Int), .slice none 0 0] 37)
  have Z1 := Z0.alloc (.cells #[.int .i64 (A : Int), .int .i64 (es.length : Int), .slice none 0 0] 37)
  have B0 : Below w.heap.size w w0 := by rw [hw0]; exact Bz.alloc Bz.size _
  have hsz0 : w0.heap.size = w.heap.size + 3 := by rw [hw0]; simp [hszz]
  rw [← hw0] at U0 C1 Z1 ⊢
  clear hw0 C0 Z0 Bz hszz
  go_loopw [6] (fun nv wr => ∃ (j : Nat) (zs : List Int) (vz : Value), nv = .int .i64 (j : Int) ∧ j ≤ D ∧ Hid (zs = (l.drop A).take j) ∧ wr.ownsRow w0.heap.size 3 1 vz zs.length (zs.map (Value.int .i64)) ∧ Box3 wr (w.heap.size + 2) (.int .i64 (A : Int)) (.int .i64 (es.length : Int)) vz ∧ Below (w.heap.size + 2) w0 wr) (fun nv _ => D - (intOf nv).toNat)
  case atStart => exact ⟨0, [], _, rfl, Nat.zero_le _, rfl, World.ownsRow_nil _ _ _ _, U0, Below.refl _ _⟩
  case round =>
    obtain ⟨j, zs, vz, rfl, hj, HZ, hown, U, hB⟩ := hrel
    have hzl : zs.length ≤ 1000000 := by rw [HZ.out, List.length_take, List.length_drop]; omega
    have hsz := hB.size
    have C := C1.kept (hB.block w.heap.size (by omega))
    have Z := Z1.kept (hB.block (w.heap.size + 1) (by omega))
    obtain ⟨kz, az, cz, rfl⟩ := own_shape hown
    have c0 := C.k0
    have c1 := C.k1
    have u2 := U.k2
    have ltU := U.lt
    by_cases hlt : j < D
    · have hBw : Below w.heap.size w wr := B0.trans (hB.mono (by omega))
      obtain ⟨b2, off2, ⟨_, he⟩, hcx⟩ := rvCell (hv.below hBw) (i := A + j) (by omega)
      cases he
      have hsn : (l.drop A).take (j + 1) = zs ++ [l[A + j]] := by
        rw [HZ.out, List.take_succ_eq_append_getElem (by rw [List.length_drop]; omega), List.getElem_drop]
      generalize l[A + j] = x at *
      have HS := Lib.hid hsn
      clear hsn
      have hil0 : (0 : Int) ≤ (A : Int) + (j : Int) := by omega
      have hil : (A : Int) + (j : Int) < (l.length : Int) := by omega
      have hwr : IntKind.i64.wrap ((A : Int) + (j : Int)) = (A : Int) + (j : Int) := by rw [IntKind.wrap_i64]; omega
      have htn : ((A : Int) + (j : Int)).toNat = A + j := by omega
      have NE : some (w.heap.size + 2) ≠ (Value.slice az kz cz).ownBlock := fun e => by have := (hown.lt _ e.symm).1; omega
      go_wp2_with fail
      go_region_law ((refine step_app1 rfl _ _ (by rfl) Tryd.elI w0.heap.size (.slice az kz cz) _ _ (by rfl) (own_below hown ((((Below.refl _ wr).drew).alloc (Nat.le_refl _) _))) wr.heap.size (.int .i64 x) (by rfl) (Rv.one _ _ _) (by rfl) (by omega) (by simp; omega) ?_; intro v7 w7 hown7 hg7 hs7; obtain ⟨k7, a7, c7, rfl⟩ := own_shape hown7; have U7 := (U.alloc _).kept (hg7.block (w.heap.size + 2) (by simp; omega) NE); have f7 := U7.fr 2; have e7 := U7.k2))
      all_goals
        have B7 : Below (w.heap.size + 2) w0 w7 := ((hB.alloc (by omega) _).drew).grown hg7 (by simp; omega) (fun g e => by have := (hown.lt g e).1; omega)
        have B8 := B7.setCell (p := ⟨w.heap.size + 2, 2, none⟩) (Nat.le_refl _) (.slice a7 k7 c7)
        have U8 := U7.s2 (.slice a7 k7 c7)
        have hown8 := own_set hown7 (b := w.heap.size + 2) (by omega) 2 (.slice a7 k7 c7)
        go_wp2_with fail
        go_roundw
        case rel => exact ⟨j + 1, zs ++ [x], _, by go_num, by omega, HS.out.symm, by simpa using hown8, U8, B8⟩
        case measure => simp [intOf]; omega
    · obtain rfl : j = D := by omega
      have u0 := U.k0
      have u1 := U.k1
      have z0 := Z.k0
      have z1 := Z.k1
      have z2 := Z.k2
      have f0 := Z.fr 0
      have f1 := Z.fr 1
      have f2 := Z.fr 2
      go_wp2_with fail
      refine bodyPost_ret (results_edit1 rfl _ rfl (threeV_box Z _ _ _)) rfl ?_
      exact ⟨_, rfl, by rw [← HZ.out]; exact own_base (own_three hown (by omega) _ _ _) (by omega), threeV_below (B0.trans (hB.mono (by omega))) (by omega) _ _ _⟩
end Go.Proofs.YtcknnlbfbjcjjaaDoor
