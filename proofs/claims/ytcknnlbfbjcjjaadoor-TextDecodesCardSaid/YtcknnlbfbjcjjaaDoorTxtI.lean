/- The model of package text: equality of edits, Splice. -/
import Derived.Test.YtcknnlbfbjcjjaaDoorTxtH
namespace Go.Proofs.YtcknnlbfbjcjjaaDoor
open Go.RowKit

def RetTB (w : World) (en : Ending) (w' : World) : Prop := en = .returned (.bool true) ∧ Below w.heap.size w w'

set_option maxHeartbeats 2000000 in
theorem sameEdit_any (u : Ed) (v1 v2 : Value) (w : World) (h1 : Rv w v1 u.s.length (u.s.map (Value.int .i64))) (h2 : Rv w v2 u.s.length (u.s.map (Value.int .i64))) :
    Calls Tryd.prog 24 #[u.val v1, u.val v2] w (RetTB w) := by
  obtain ⟨a, d, s⟩ := u
  obtain ⟨a1, c1, rfl, _, _⟩ := h1.opened
  obtain ⟨a2, c2, rfl, _, _⟩ := h2.opened
  unfold Ed.val
  simp only at h1 h2 ⊢
  have C1 := (Box3.new w (.int .i64 a) (.int .i64 d) (.slice a1 s.length c1)).alloc (.cells #[.int .i64 a, .int .i64 d, .slice a2 s.length c2] 37)
  have C2 := Box3.new (w.alloc (.cells #[.int .i64 a, .int .i64 d, .slice a1 s.length c1] 37)) (.int .i64 a) (.int .i64 d) (.slice a2 s.length c2)
  have B0 : Below w.heap.size w ((w.alloc (.cells #[.int .i64 a, .int .i64 d, .slice a1 s.length c1] 37)).alloc (.cells #[.int .i64 a, .int .i64 d, .slice a2 s.length c2] 37)) := ((Below.refl _ w).alloc (Nat.le_refl _) _).alloc (by simp) _
  rw [World.size_alloc] at C2
  have g0 := C1.k0
  have g1 := C1.k1
  have g2 := C1.k2
  have e0 := C2.k0
  have e1 := C2.k1
  have e2 := C2.k2
  go_enter Tryd.func24, Tryd.ntmps24
  go_wp2_with fail
  refine (sameInts_refl _ _ _ _ (h1.below B0) (h2.below B0)).mono ?_
  rintro e w1 ⟨rfl, n1, hw1⟩
  have B1 : Below w.heap.size w w1 := by rw [hw1]; exact belD B0 _
  clear hw1
  go_wp2_with fail
  go_ret
  exact ⟨rfl, B1⟩

/-- What may be read of a row can be read cell by cell. -/
theorem rvCell {w : World} {v : Value} {l : List Int} {n : Nat} (h : Rv w v n (l.map (Value.int .i64))) {i : Nat} (hi : i < l.length) : ∃ b off, (∃ cap, v = .slice (some ⟨b, off, none⟩) n cap) ∧ w.cell? ⟨b, off + i, none⟩ = some (.int .i64 l[i]) := by
  obtain ⟨ao, cap, rfl, _, _⟩ := h.opened
  obtain ⟨b, off, he, hc⟩ := h.rd.cell (i := i) (u := .int .i64 l[i]) (by simp [hi])
  have he' : ao = some ⟨b, off, none⟩ := he
  subst he'
  exact ⟨b, off, ⟨cap, rfl⟩, hc⟩

set_option maxRecDepth 20000 in
set_option maxHeartbeats 4000000 in
theorem rsplice_any (v : Value) (l : List Int) (A D : Nat) (es : List Int) (iv : Value) (w : World) (hv : Rv w v l.length (l.map (Value.int .i64))) (hi : Rv w iv es.length (es.map (Value.int .i64))) (hl : l.length ≤ 1000000) (hs : es.length ≤ 1000000) (hAD : A + D ≤ l.length) :
    Calls Tryd.prog 25 #[v, Ed.val ⟨(A : Int), (D : Int), es⟩ iv] w (RetMade w 3 ((l.take A ++ (es ++ l.drop (A + D))).map (Value.int .i64))) := by
  obtain ⟨ao, cap, rfl, hcap, _⟩ := hv.opened
  obtain ⟨ai, ci, rfl, hci, _⟩ := hi.opened
  unfold Ed.val
  simp only
  have C0 := Box3.new w (.int .i64 (A : Int)) (.int .i64 (D : Int)) (.slice ai es.length ci)
  have B0 : Below w.heap.size w (w.alloc (.cells #[.int .i64 (A : Int), .int .i64 (D : Int), .slice ai es.length ci] 37)) := (Below.refl _ w).alloc (Nat.le_refl _) _
  go_enter Tryd.func25, Tryd.ntmps25
  go_wp2_with fail
  have lt0 := C0.lt
  obtain ⟨w0, hw0⟩ : ∃ w0, w0 = w.alloc (.cells #[.int .i64 (A : Int), .int .i64 (D : Int), .slice ai es.length ci] 37) := ⟨_, rfl⟩
  rw [← hw0] at C0 B0 lt0 ⊢
  clear hw0
  go_loopw [5, 6] (fun ov nv wr => ∃ (i : Nat) (ys : List Int), nv = .int .i64 (i : Int) ∧ i ≤ A ∧ Hid (ys = l.take i) ∧ wr.ownsRow w0.heap.size 3 1 ov ys.length (ys.map (Value.int .i64)) ∧ Below w0.heap.size w0 wr) (fun _ nv _ => A - (intOf nv).toNat)
  case atStart => exact ⟨0, [], rfl, Nat.zero_le _, rfl, World.ownsRow_nil _ _ _ _, Below.refl _ _⟩
  case round =>
    obtain ⟨i, ys, rfl, hia, HY, hown, hB⟩ := hrel
    have hyl : ys.length ≤ 1000000 := by rw [HY.out, List.length_take]; omega
    have hsz := hB.size
    have C1 := C0.kept (hB.block _ lt0)
    have k0 := C1.k0
    have k1 := C1.k1
    have k2 := C1.k2
    by_cases hlt : i < A
    · obtain ⟨b2, off2, ⟨_, he⟩, hcx⟩ := rvCell (hv.below (bel B0 hB)) (i := i) (by omega)
      cases he
      have hsn : l.take (i + 1) = ys ++ [l[i]] := by rw [HY.out, List.take_succ_eq_append_getElem (by omega)]
      generalize l[i] = x at *
      have HS := Lib.hid hsn
      clear hsn
      have hil : (i : Int) < (l.length : Int) := by omega
      go_wp2_with (at_builtin; refine wpList_app _ rfl _ _ rfl Tryd.elI w0.heap.size u5 ys.length _ rfl (own_below hown ((Below.refl _ wr).alloc (Nat.le_refl _) _)) (.slice (some ⟨wr.heap.size, 0, none⟩) 1 1) 1 [.int .i64 x] rfl (Rv.one _ _ _) rfl (ones1 _ rfl) (by omega) (by simp; omega) ?_; intro v5 w5 hown5 hg5 _)
      go_roundw
      case rel => exact ⟨i + 1, ys ++ [x], by go_num, by omega, HS.out.symm, by simpa using hown5, (hB.alloc hsz _).grown hg5 (by simp; omega) (fun g e => (hown.lt g e).1)⟩
      case measure => simp [intOf]; omega
    · obtain rfl : i = A := by omega
      have hi1 := hi.below (bel B0 hB)
      have hwr : IntKind.i64.wrap ((i : Int) + (D : Int)) = (i : Int) + (D : Int) := by rw [IntKind.wrap_i64]; omega
      go_wp2_with (at_builtin; refine wpList_app _ rfl _ _ rfl Tryd.elI w0.heap.size u5 ys.length _ rfl hown (.slice ai es.length ci) es.length (es.map (Value.int .i64)) rfl hi1 (by simp) (ones_I _) (by omega) hsz ?_; intro v5 w5 hown5 hg5 _; have B5 : Below w0.heap.size w0 w5 := hB.grown hg5 hsz (fun g e => (hown.lt g e).1); have C5 := C0.kept (B5.block _ lt0); have c0 := C5.k0; have c1 := C5.k1)
      rw [← List.map_append, ← List.length_append] at hown5
      clear k0 k1 k2 C1 hown hB hg5 hsz
      go_loopw [5, 7] (fun ov nv wr => ∃ (j : Nat) (zs : List Int), nv = .int .i64 (j : Int) ∧ i + D ≤ j ∧ j ≤ l.length ∧ Hid (zs = l.take i ++ (es ++ (l.take j).drop (i + D))) ∧ wr.ownsRow w0.heap.size 3 1 ov zs.length (zs.map (Value.int .i64)) ∧ Below w0.heap.size w0 wr) (fun _ nv _ => l.length - (intOf nv).toNat)
      case atStart => exact ⟨i + D, ys ++ es, by go_num, Nat.le_refl _, hAD, (by show _ = _; rw [HY.out, List.drop_eq_nil_of_le (by rw [List.length_take]; omega), List.append_nil]), hown5, B5⟩
      case round =>
        obtain ⟨j, zs, rfl, hj0, hj, HZ, hown, hB⟩ := hrel
        have hzl : zs.length ≤ 3000000 := by rw [HZ.out]; simp; omega
        have hsz := hB.size
        by_cases hlt : j < l.length
        · obtain ⟨b2, off2, ⟨_, he⟩, hcx⟩ := rvCell (hv.below (bel B0 hB)) (i := j) hlt
          cases he
          have hsn : l.take i ++ (es ++ (l.take (j + 1)).drop (i + D)) = zs ++ [l[j]] := by
            rw [HZ.out, List.take_succ_eq_append_getElem hlt, List.drop_append_of_le_length (by rw [List.length_take]; omega), List.append_assoc, List.append_assoc]
          generalize l[j] = x at *
          have HS := Lib.hid hsn
          clear hsn
          go_wp2_with (at_builtin; refine wpList_app _ rfl _ _ rfl Tryd.elI w0.heap.size u5 zs.length _ rfl (own_below hown ((Below.refl _ wr).alloc (Nat.le_refl _) _)) (.slice (some ⟨wr.heap.size, 0, none⟩) 1 1) 1 [.int .i64 x] rfl (Rv.one _ _ _) rfl (ones1 _ rfl) (by omega) (by simp; omega) ?_; intro v6 w6 hown6 hg6 _)
          go_roundw
          case rel => exact ⟨j + 1, zs ++ [x], by go_num, by omega, by omega, HS.out.symm, by simpa using hown6, (hB.alloc hsz _).grown hg6 (by simp; omega) (fun g e => (hown.lt g e).1)⟩
          case measure => simp [intOf]; omega
        · obtain rfl : j = l.length := by omega
          rw [List.take_length] at HZ
          go_wp2_with fail
          go_ret
          exact retMade (own_base hown B0.size) (by rw [HZ.out]) (bel B0 hB)
end Go.Proofs.YtcknnlbfbjcjjaaDoor
