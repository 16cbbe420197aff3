/- Several texts in one: TxtH TxtI. -/
import Derived.Test.YtpehnggglolnoaaTxtG
import Derived.Laws.ResultCell
/- Package text: Undo; the model's equality of edits. -/
namespace Go.Proofs.Ytpehnggglolnoaa
open Go.RowKit

/-- The edit that undoes an edit. -/
def und (l : List Int) (e : Ed) : Ed := ⟨e.a, (e.s.length : Int), (l.drop e.a.toNat).take e.d.toNat⟩
def undR (l : List Int) (e : Ed) : Ed := if chkE l.length e = 0 then und l e else ⟨0, 0, []⟩
def UdPost (w : World) (r : Int) (u : Ed) (en : Ending) (w' : World) : Prop := ∃ v', en = .returned (.tuple #[u.val v', .int .i64 r]) ∧ w'.ownsRow w.heap.size 3 1 v' u.s.length (u.s.map (Value.int .i64)) ∧ Below w.heap.size w w'

def threeV (w : World) (b : Nat) (c0 c1 c2 : Value) : World := ((w.setCell ⟨b, 0, none⟩ c0).setCell ⟨b, 1, none⟩ c1).setCell ⟨b, 2, none⟩ c2
theorem heap_set3 {w : World} {b : Nat} {cs : Array Value} {t : TypeId} (h : w.heap[b]? = some (.cells cs t (0, 0))) (j : Nat) (x : Value) : (w.setCell ⟨b, j, none⟩ x).heap[b]? = some (.cells (cs.setIfInBounds j x) t (0, 0)) := by
  obtain ⟨hlt, hk⟩ := Array.getElem?_eq_some_iff.1 h
  show (w.heap.modify b _)[b]? = _
  rw [Array.getElem?_eq_getElem (by rw [Array.size_modify]; exact hlt), Array.getElem_modify_self, hk]
  rfl
theorem threeV_box {w : World} {b : Nat} {d0 d1 d2 : Value} (h : Box3 w b d0 d1 d2) (c0 c1 c2 : Value) : Box3 (threeV w b c0 c1 c2) b c0 c1 c2 := heap_set3 (heap_set3 (heap_set3 h 0 c0) 1 c1) 2 c2
theorem threeV_below {w0 w : World} {n b : Nat} (h : Below n w0 w) (hn : n ≤ b) (c0 c1 c2 : Value) : Below n w0 (threeV w b c0 c1 c2) :=
  ((h.setCell (p := ⟨b, 0, none⟩) hn c0).setCell (p := ⟨b, 1, none⟩) hn c1).setCell (p := ⟨b, 2, none⟩) hn c2
theorem threeV_far {w : World} {b k : Nat} (hk : k ≠ b) (c0 c1 c2 : Value) : (threeV w b c0 c1 c2).heap[k]? = w.heap[k]? := by
  unfold threeV
  rw [Below.heap_setCell _ _ _ _ hk, Below.heap_setCell _ _ _ _ hk, Below.heap_setCell _ _ _ _ hk]
theorem own_three {w : World} {base b : Nat} {e : TypeId} {size : Nat} {v : Value} {n : Nat} {xs : List Value} (h : w.ownsRow base e size v n xs) (hb : b < base) (c0 c1 c2 : Value) : (threeV w b c0 c1 c2).ownsRow base e size v n xs := by
  obtain ⟨hl, h | ⟨g, cap, cur, rfl, hb1, hg, hn, hc, hs, ht⟩⟩ := h
  · exact ⟨hl, .inl h⟩
  · exact ⟨hl, .inr ⟨g, cap, cur, rfl, hb1, (threeV_far (by omega) c0 c1 c2).trans hg, hn, hc, hs, ht⟩⟩

theorem results_edit {fn : Func} {p u : Tmp} (hf : fn.results = #[.cell p 45, .tmp u]) (tmps : Array Value) {w : World} {b : Nat} {c0 c1 c2 : Value}
    (hp : tmps.getD p undef = .pointer (some ⟨b, 0, none⟩)) (h : Box3 w b c0 c1 c2) : (results fn tmps).run Try.prog w = .ok (.tuple #[.agg #[c0, c1, c2], tmps.getD u undef]) w := by
  have hp' : tmps[p]?.getD undef = .pointer (some ⟨b, 0, none⟩) := by simpa using hp
  have k0 := h.k0
  have k1 := h.k1
  have k2 := h.k2
  rw [results_cell_tmp hf]
  simp [hp', go_sem, k0, k1, k2, Result.andThen]

end Go.Proofs.Ytpehnggglolnoaa

/- The model of package text: equality of edits, Splice. -/
namespace Go.Proofs.Ytpehnggglolnoaa
open Go.RowKit

def RetTB (w : World) (en : Ending) (w' : World) : Prop := en = .returned (.bool true) ∧ Below w.heap.size w w'

/-- What may be read of a row can be read cell by cell. -/
theorem rvCell {w : World} {v : Value} {l : List Int} {n : Nat} (h : Rv w v n (l.map (Value.int .i64))) {i : Nat} (hi : i < l.length) : ∃ b off, (∃ cap, v = .slice (some ⟨b, off, none⟩) n cap) ∧ w.cell? ⟨b, off + i, none⟩ = some (.int .i64 l[i]) := by
  obtain ⟨ao, cap, rfl, _, _⟩ := h.opened
  obtain ⟨b, off, he, hc⟩ := h.rd.cell (i := i) (u := .int .i64 l[i]) (by simp [hi])
  have he' : ao = some ⟨b, off, none⟩ := he
  subst he'
  exact ⟨b, off, ⟨cap, rfl⟩, hc⟩

set_option maxRecDepth 20000 in
set_option maxHeartbeats 4000000 in
theorem rsplice_any (v : Value) (l : List Int) (A D : Nat) (es : List Int) (iv : Value) (w : World) (hv : Rv w v l.length (l.map (Value.int .i64))) (hi : Rv w iv es.length (es.map (Value.int .i64))) (hl : l.length ≤ 1000000) (hs : es.length ≤ 1000000) (hAD : A + D ≤ l.length) :
    Calls Try.prog 51 #[v, Ed.val ⟨(A : Int), (D : Int), es⟩ iv] w (RetMade w 3 ((l.take A ++ (es ++ l.drop (A + D))).map (Value.int .i64))) := by
  obtain ⟨ao, cap, rfl, hcap, _⟩ := hv.opened
  obtain ⟨ai, ci, rfl, hci, _⟩ := hi.opened
  unfold Ed.val
  simp only
  have C0 := Box3.new w (.int .i64 (A : Int)) (.int .i64 (D : Int)) (.slice ai es.length ci)
  have B0 : Below w.heap.size w (w.alloc (.cells #[.int .i64 (A : Int), .int .i64 (D : Int), .slice ai es.length ci] 45)) := (Below.refl _ w).alloc (Nat.le_refl _) _
  go_enter Try.func51, Try.ntmps51
  go_wp2_with fail
  have lt0 := C0.lt
  obtain ⟨w0, hw0⟩ : ∃ w0, w0 = w.alloc (.cells #[.int .i64 (A : Int), .int .i64 (D : Int), .slice ai es.length ci] 45) := ⟨_, rfl⟩
  rw [← hw0] at C0 B0 lt0 ⊢
  clear hw0
  go_loopw [5, 6] (fun ov nv wr => ∃ (i : Nat) (ys : List Int), nv = .int .i64 (i : Int) ∧ i ≤ A ∧ Hid (ys = l.take i) ∧ wr.ownsRow w0.heap.size 3 1 ov ys.length (ys.map (Value.int .i64)) ∧ Below w0.heap.size w0 wr) (fun _ nv _ => A - (intOf nv).toNat)
  case atStart => exact ⟨0, [], rfl, Nat.zero_le _, rfl, World.ownsRow_nil _ _ _ _, Below.refl _ _⟩
  case round =>
    obtain ⟨i, ys, rfl, hia, HY, hown, hB⟩ := hrel
    have hyl : ys.length ≤ 1000000 := by rw [HY.out, List.length_take]; omega
    have hsz := hB.size
    have C1 := C0.kept (hB.block _ lt0)
    have k0 := C1.k0
    have k1 := C1.k1
    have k2 := C1.k2
    by_cases hlt : i < A
    · obtain ⟨b2, off2, ⟨_, he⟩, hcx⟩ := rvCell (hv.below (bel B0 hB)) (i := i) (by omega)
      cases he
      have hsn : l.take (i + 1) = ys ++ [l[i]] := by rw [HY.out, List.take_succ_eq_append_getElem (by omega)]
      generalize l[i] = x at *
      have HS := Lib.hid hsn
      clear hsn
      have hil : (i : Int) < (l.length : Int) := by omega
      go_wp2_with (at_builtin; refine wpList_app _ rfl _ _ rfl Try.elI w0.heap.size u5 ys.length _ rfl (own_below hown ((Below.refl _ wr).alloc (Nat.le_refl _) _)) (.slice (some ⟨wr.heap.size, 0, none⟩) 1 1) 1 [.int .i64 x] rfl (Rv.one _ _ _) rfl (ones1 _ rfl) (by omega) (by simp; omega) ?_; intro v5 w5 hown5 hg5 _)
      go_roundw
      case rel => exact ⟨i + 1, ys ++ [x], by go_num, by omega, HS.out.symm, by simpa using hown5, (hB.alloc hsz _).grown hg5 (by simp; omega) (fun g e => (hown.lt g e).1)⟩
      case measure => simp [intOf]; omega
    · obtain rfl : i = A := by omega
      have hi1 := hi.below (bel B0 hB)
      have hwr : IntKind.i64.wrap ((i : Int) + (D : Int)) = (i : Int) + (D : Int) := by rw [IntKind.wrap_i64]; omega
      go_wp2_with (at_builtin; refine wpList_app _ rfl _ _ rfl Try.elI w0.heap.size u5 ys.length _ rfl hown (.slice ai es.length ci) es.length (es.map (Value.int .i64)) rfl hi1 (by simp) (ones_I _) (by omega) hsz ?_; intro v5 w5 hown5 hg5 _; have B5 : Below w0.heap.size w0 w5 := hB.grown hg5 hsz (fun g e => (hown.lt g e).1); have C5 := C0.kept (B5.block _ lt0); have c0 := C5.k0; have c1 := C5.k1)
      rw [← List.map_append, ← List.length_append] at hown5
      clear k0 k1 k2 C1 hown hB hg5 hsz
      go_loopw [5, 7] (fun ov nv wr => ∃ (j : Nat) (zs : List Int), nv = .int .i64 (j : Int) ∧ i + D ≤ j ∧ j ≤ l.length ∧ Hid (zs = l.take i ++ (es ++ (l.take j).drop (i + D))) ∧ wr.ownsRow w0.heap.size 3 1 ov zs.length (zs.map (Value.int .i64)) ∧ Below w0.heap.size w0 wr) (fun _ nv _ => l.length - (intOf nv).toNat)
      case atStart => exact ⟨i + D, ys ++ es, by go_num, Nat.le_refl _, hAD, (by show _ = _; rw [HY.out, List.drop_eq_nil_of_le (by rw [List.length_take]; omega), List.append_nil]), hown5, B5⟩
      case round =>
        obtain ⟨j, zs, rfl, hj0, hj, HZ, hown, hB⟩ := hrel
        have hzl : zs.length ≤ 3000000 := by rw [HZ.out]; simp; omega
        have hsz := hB.size
        by_cases hlt : j < l.length
        · obtain ⟨b2, off2, ⟨_, he⟩, hcx⟩ := rvCell (hv.below (bel B0 hB)) (i := j) hlt
          cases he
          have hsn : l.take i ++ (es ++ (l.take (j + 1)).drop (i + D)) = zs ++ [l[j]] := by
            rw [HZ.out, List.take_succ_eq_append_getElem hlt, List.drop_append_of_le_length (by rw [List.length_take]; omega), List.append_assoc, List.append_assoc]
          generalize l[j] = x at *
          have HS := Lib.hid hsn
          clear hsn
          go_wp2_with (at_builtin; refine wpList_app _ rfl _ _ rfl Try.elI w0.heap.size u5 zs.length _ rfl (own_below hown ((Below.refl _ wr).alloc (Nat.le_refl _) _)) (.slice (some ⟨wr.heap.size, 0, none⟩) 1 1) 1 [.int .i64 x] rfl (Rv.one _ _ _) rfl (ones1 _ rfl) (by omega) (by simp; omega) ?_; intro v6 w6 hown6 hg6 _)
          go_roundw
          case rel => exact ⟨j + 1, zs ++ [x], by go_num, by omega, by omega, HS.out.symm, by simpa using hown6, (hB.alloc hsz _).grown hg6 (by simp; omega) (fun g e => (hown.lt g e).1)⟩
          case measure => simp [intOf]; omega
        · obtain rfl : j = l.length := by omega
          rw [List.take_length] at HZ
          go_wp2_with fail
          go_ret
          exact retMade (own_base hown B0.size) (by rw [HZ.out]) (bel B0 hB)
end Go.Proofs.Ytpehnggglolnoaa
