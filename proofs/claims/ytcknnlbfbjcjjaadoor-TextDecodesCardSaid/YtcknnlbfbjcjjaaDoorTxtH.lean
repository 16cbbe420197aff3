/- Package text: Undo; the model's equality of edits. -/
import Derived.Test.YtcknnlbfbjcjjaaDoorTxtG
import Derived.Laws.ResultCell
namespace Go.Proofs.YtcknnlbfbjcjjaaDoor
open Go.RowKit

/-- The edit that undoes an edit. -/
def und (l : List Int) (e : Ed) : Ed := ⟨e.a, (e.s.length : Int), (l.drop e.a.toNat).take e.d.toNat⟩
def undR (l : List Int) (e : Ed) : Ed := if chkE l.length e = 0 then und l e else ⟨0, 0, []⟩
def UdPost (w : World) (r : Int) (u : Ed) (en : Ending) (w' : World) : Prop := ∃ v', en = .returned (.tuple #[u.val v', .int .i64 r]) ∧ w'.ownsRow w.heap.size 3 1 v' u.s.length (u.s.map (Value.int .i64)) ∧ Below w.heap.size w w'

def threeV (w : World) (b : Nat) (c0 c1 c2 : Value) : World := ((w.setCell ⟨b, 0, none⟩ c0).setCell ⟨b, 1, none⟩ c1).setCell ⟨b, 2, none⟩ c2
theorem heap_set3 {w : World} {b : Nat} {cs : Array Value} {t : TypeId} (h : w.heap[b]? = some (.cells cs t (0, 0))) (j : Nat) (x : Value) : (w.setCell ⟨b, j, none⟩ x).heap[b]? = some (.cells (cs.setIfInBounds j x) t (0, 0)) := by
  obtain ⟨hlt, hk⟩ := Array.getElem?_eq_some_iff.1 h
  show (w.heap.modify b _)[b]? = _
  rw [Array.getElem?_eq_getElem (by rw [Array.size_modify]; exact hlt), Array.getElem_modify_self, hk]
  rfl
theorem threeV_box {w : World} {b : Nat} {d0 d1 d2 : Value} (h : Box3 w b d0 d1 d2) (c0 c1 c2 : Value) : Box3 (threeV w b c0 c1 c2) b c0 c1 c2 := heap_set3 (heap_set3 (heap_set3 h 0 c0) 1 c1) 2 c2
theorem threeV_below {w0 w : World} {n b : Nat} (h : Below n w0 w) (hn : n ≤ b) (c0 c1 c2 : Value) : Below n w0 (threeV w b c0 c1 c2) :=
  ((h.setCell (p := ⟨b, 0, none⟩) hn c0).setCell (p := ⟨b, 1, none⟩) hn c1).setCell (p := ⟨b, 2, none⟩) hn c2
theorem threeV_far {w : World} {b k : Nat} (hk : k ≠ b) (c0 c1 c2 : Value) : (threeV w b c0 c1 c2).heap[k]? = w.heap[k]? := by
  unfold threeV
  rw [Below.heap_setCell _ _ _ _ hk, Below.heap_setCell _ _ _ _ hk, Below.heap_setCell _ _ _ _ hk]
theorem own_three {w : World} {base b : Nat} {e : TypeId} {size : Nat} {v : Value} {n : Nat} {xs : List Value} (h : w.ownsRow base e size v n xs) (hb : b < base) (c0 c1 c2 : Value) : (threeV w b c0 c1 c2).ownsRow base e size v n xs := by
  obtain ⟨hl, h | ⟨g, cap, cur, rfl, hb1, hg, hn, hc, hs, ht⟩⟩ := h
  · exact ⟨hl, .inl h⟩
  · exact ⟨hl, .inr ⟨g, cap, cur, rfl, hb1, (threeV_far (by omega) c0 c1 c2).trans hg, hn, hc, hs, ht⟩⟩

theorem results_edit {fn : Func} {p u : Tmp} (hf : fn.results = #[.cell p 37, .tmp u]) (tmps : Array Value) {w : World} {b : Nat} {c0 c1 c2 : Value}
    (hp : tmps.getD p undef = .pointer (some ⟨b, 0, none⟩)) (h : Box3 w b c0 c1 c2) : (results fn tmps).run Tryd.prog w = .ok (.tuple #[.agg #[c0, c1, c2], tmps.getD u undef]) w := by
  have hp' : tmps[p]?.getD undef = .pointer (some ⟨b, 0, none⟩) := by simpa using hp
  have k0 := h.k0
  have k1 := h.k1
  have k2 := h.k2
  rw [results_cell_tmp hf]
  simp [hp', go_sem, k0, k1, k2, Result.andThen]

set_option maxRecDepth 20000 in
set_option maxHeartbeats 4000000 in
theorem undo_any (v : Value) (l : List Int) (e : Ed) (iv : Value) (w : World) (hv : Rv w v l.length (l.map (Value.int .i64))) (hi : Rv w iv e.s.length (e.s.map (Value.int .i64))) (hl : l.length ≤ 1000000) (hs : e.s.length ≤ 1000000)
    (ha : -9223372036854775808 ≤ e.a ∧ e.a ≤ 9223372036854775807) (hd : -9223372036854775808 ≤ e.d ∧ e.d ≤ 9223372036854775807) :
    Calls Tryd.prog 22 #[v, e.val iv] w (UdPost w (chkE l.length e) (undR l e)) := by
  have hus : undR l e = if chkE l.length e = 0 then und l e else ⟨0, 0, []⟩ := rfl
  have hck := fun w' (h1 : Rv w' v l.length (l.map (Value.int .i64))) (h2 : Rv w' iv e.s.length (e.s.map (Value.int .i64))) => check_any v l e iv w' h1 h2 (by omega) (by omega) ha hd
  have hok := @chkE_ok l.length e
  have HCK := Lib.hid hck
  clear hck
  obtain ⟨ao, cap, rfl, hcap, _⟩ := hv.opened
  obtain ⟨ai, ci, rfl, hci, _⟩ := hi.opened
  have B0 : Below w.heap.size w ((w.alloc (.cells #[.int .i64 e.a, .int .i64 e.d, .slice ai e.s.length ci] 37)).alloc (.cells #[.int .i64 0, .int .i64 0, .slice none 0 0] 37)) := ((Below.refl _ w).alloc (Nat.le_refl _) _).alloc (by simp) _
  have C0 := (Box3.new w (.int .i64 e.a) (.int .i64 e.d) (.slice ai e.s.length ci)).alloc (.cells #[.int .i64 0, .int .i64 0, .slice none 0 0] 37)
  have Z0 := Box3.new (w.alloc (.cells #[.int .i64 e.a, .int .i64 e.d, .slice ai e.s.length ci] 37)) (.int .i64 0) (.int .i64 0) (.slice none 0 0)
  rw [World.size_alloc] at Z0
  have hv0 := hv.below B0
  have hi0 := hi.below B0
  have k0 := C0.k0
  have k1 := C0.k1
  have k2 := C0.k2
  generalize hr : chkE l.length e = r at *
  generalize undR l e = u at *
  have HUS := Lib.hid hus
  clear hus
  by_cases h0 : r = 0
  · subst h0
    obtain ⟨A, D, hA, hD, hAD, _, _⟩ := hok rfl
    have hus0 : u = ⟨(A : Int), (e.s.length : Int), (l.drop A).take D⟩ := by
      rw [HUS.out, if_pos rfl, und, hA, hD]
      rfl
    subst hus0
    obtain ⟨ea, ed, es⟩ := e
    simp only at hA hD hs hi hi0 ha hd k0 k1 k2 B0 C0 Z0 hv0 HCK ⊢
    subst hA hD
    have hlen : ((l.drop A).take D).length = D := by rw [List.length_take, List.length_drop]; omega
    have r3 : Rv w (.slice (if cap = A then ao else ao.map (·.add A)) D (cap - A)) ((l.drop A).take D).length (((l.drop A).take D).map (Value.int .i64)) := by
      obtain ⟨a', c', h1, _, h3⟩ := hv.sliced 1 A (A + D) (by omega) hAD
      cases h1
      rw [hlen, List.map_take, List.map_drop]
      simp only [Nat.mul_one, Nat.add_sub_cancel_left] at h3
      exact h3
    generalize hp3 : (if cap = A then ao else ao.map (·.add A)) = a3 at *
    have HLN : Hid (((l.drop A).take D).length ≤ 1000000000) := by show _ ≤ _; rw [hlen]; omega
    clear hok HUS hr hlen
    generalize (l.drop A).take D = us at *
    have hn1 : (0 : Int) ≤ (A : Int) := by omega
    have hn2 : (A : Int) ≤ (l.length : Int) := by omega
    have hn3 : (A : Int) ≤ (cap : Int) := by omega
    have hn4 : (0 : Int) ≤ (A : Int) + (D : Int) := by omega
    have hn5 : (A : Int) + (D : Int) ≤ (l.length : Int) := by omega
    have hn6 : (A : Int) ≤ (A : Int) + (D : Int) := by omega
    have hn7 : (A : Int) + (D : Int) ≤ (cap : Int) := by omega
    have htn : ((A : Int) + (D : Int)).toNat = A + D := by omega
    have hwr : IntKind.i64.wrap ((A : Int) + (D : Int)) = (A : Int) + (D : Int) := by rw [IntKind.wrap_i64]; omega
    unfold Ed.val
    go_enter Tryd.func22, Tryd.ntmps22
    go_wp2_with fail
    refine (HCK.out _ hv0 hi0).mono ?_
    rintro en w1 ⟨rfl, B1⟩
    have C1 := C0.kept (B1.block _ C0.lt)
    have Z1 := Z0.kept (B1.block _ Z0.lt)
    have e0 := C1.k0
    have e1 := C1.k1
    have e2 := C1.k2
    clear k0 k1 k2 C0 Z0 hv0 hi0 HCK
    have B01 := bel B0 B1
    have hsz := Z1.lt
    by_cases hcd : cap = A
    · obtain rfl : A = cap := hcd.symm
      rw [if_pos rfl] at hp3
      subst hp3
      have ez : A - A = 0 := by omega
      rw [ez] at r3
      go_wp2_with fail
      go_region_held3 (fun W' => W'.cell? ⟨w.heap.size, 0, none⟩ = some (.int .i64 (A : Int)) ∧ W'.cell? ⟨w.heap.size, 1, none⟩ = some (.int .i64 (D : Int)) ∧ W'.cell? ⟨w.heap.size, 2, none⟩ = some (.slice ai es.length ci))
        (first | exact ⟨(C9.kept (threeV_far (b := w.heap.size + 1) (by omega) _ _ _)).k0, (C9.kept (threeV_far (b := w.heap.size + 1) (by omega) _ _ _)).k1, (C9.kept (threeV_far (b := w.heap.size + 1) (by omega) _ _ _)).k2⟩ | exact ⟨C9.k0, C9.k1, C9.k2⟩ | exact ⟨C1.k0, C1.k1, C1.k2⟩)
        ((go_at_call 52; refine (clone_any _ us _ (r3.below B01.drew) HLN.out).mono ?_; rintro e w9 ⟨v9, rfl, M9⟩; obtain ⟨k9, a9, c9, rfl⟩ := own_shape M9.1; have C9 := C1.kept (M9.2.block w.heap.size C1.lt); have Z9 := Z1.kept (M9.2.block (w.heap.size + 1) Z1.lt); have z0 := Z9.k0; have z1 := Z9.k1; have z2 := Z9.k2; have f0 := Z9.fr 0; have f1 := Z9.fr 1; have f2 := Z9.fr 2))
      go_wp2_with fail
      refine bodyPost_ret (results_edit rfl _ rfl (threeV_box Z9 _ _ _)) rfl ?_
      have O9 := M9.1
      rw [List.length_map] at O9
      exact ⟨_, rfl, own_base (own_three O9 hsz _ _ _) B01.size, threeV_below (bel B01.drew M9.2) (Nat.le_succ _) _ _ _⟩
    · rw [if_neg hcd] at hp3
      subst hp3
      go_wp2_with fail
      go_region_held3 (fun W' => W'.cell? ⟨w.heap.size, 0, none⟩ = some (.int .i64 (A : Int)) ∧ W'.cell? ⟨w.heap.size, 1, none⟩ = some (.int .i64 (D : Int)) ∧ W'.cell? ⟨w.heap.size, 2, none⟩ = some (.slice ai es.length ci))
        (first | exact ⟨(C9.kept (threeV_far (b := w.heap.size + 1) (by omega) _ _ _)).k0, (C9.kept (threeV_far (b := w.heap.size + 1) (by omega) _ _ _)).k1, (C9.kept (threeV_far (b := w.heap.size + 1) (by omega) _ _ _)).k2⟩ | exact ⟨C9.k0, C9.k1, C9.k2⟩ | exact ⟨C1.k0, C1.k1, C1.k2⟩)
        ((go_at_call 52; refine (clone_any _ us _ (r3.below B01.drew) HLN.out).mono ?_; rintro e w9 ⟨v9, rfl, M9⟩; obtain ⟨k9, a9, c9, rfl⟩ := own_shape M9.1; have C9 := C1.kept (M9.2.block w.heap.size C1.lt); have Z9 := Z1.kept (M9.2.block (w.heap.size + 1) Z1.lt); have z0 := Z9.k0; have z1 := Z9.k1; have z2 := Z9.k2; have f0 := Z9.fr 0; have f1 := Z9.fr 1; have f2 := Z9.fr 2))
      go_wp2_with fail
      refine bodyPost_ret (results_edit rfl _ rfl (threeV_box Z9 _ _ _)) rfl ?_
      have O9 := M9.1
      rw [List.length_map] at O9
      exact ⟨_, rfl, own_base (own_three O9 hsz _ _ _) B01.size, threeV_below (bel B01.drew M9.2) (Nat.le_succ _) _ _ _⟩
  · have hne : (r != 0) = true := by simpa using h0
    have hne2 : (r == 0) = false := by simpa using h0
    have hus0 : u = ⟨0, 0, []⟩ := by rw [HUS.out, if_neg h0]
    subst hus0
    clear hok h0 HUS hr
    unfold Ed.val
    go_enter Tryd.func22, Tryd.ntmps22
    go_wp2_with fail
    refine (HCK.out _ hv0 hi0).mono ?_
    rintro en w1 ⟨rfl, B1⟩
    have Z1 := Z0.kept (B1.block _ Z0.lt)
    have z0 := Z1.k0
    have z1 := Z1.k1
    have z2 := Z1.k2
    have f0 := Z1.fr 0
    have f1 := Z1.fr 1
    have f2 := Z1.fr 2
    go_wp2_with fail
    refine bodyPost_ret (results_edit rfl _ rfl (threeV_box Z1 _ _ _)) rfl ?_
    exact ⟨_, rfl, World.ownsRow_nil _ _ _ _, threeV_below (bel B0 B1) (Nat.le_succ _) _ _ _⟩
end Go.Proofs.YtcknnlbfbjcjjaaDoor
