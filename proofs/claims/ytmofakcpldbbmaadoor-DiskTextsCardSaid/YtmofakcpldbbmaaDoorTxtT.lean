/- Out of the row's condition: what the package's variable holds. -/
import Derived.Test.YtmofakcpldbbmaaDoorTxtL
import Derived.Test.YtmofakcpldbbmaaDoorRows
import Derived.LaidMore
import Derived.OpenShut
import Derived.MakeChecks
import Derived.Stop.Joined
namespace Go.Proofs.YtmofakcpldbbmaaDoor
open Go.RowKit

theorem gForms : Tryd.prog.globalNamed "rexmill/text.forms" = some 0 := by kernel_rfl
theorem tForms : (Tryd.prog.globals[0]?).map (·.type) = some 48 := by kernel_rfl
theorem uForms : Tryd.prog.underlying 48 = some (.array 4 47) := by kernel_rfl
theorem cForm : Tryd.prog.cellsOf 47 = 4 := by kernel_rfl
theorem cForms : Tryd.prog.cellsOf 48 = 16 := by kernel_rfl
theorem cInt : Tryd.prog.cellsOf 3 = 1 := by kernel_rfl
def fieldsOf : Option TypeDesc → List (Nat × Nat)
  | some (.struct fs) => fs.toList.map fun f => (f.type, f.offset)
  | _ => []
theorem uForm : fieldsOf (Tryd.prog.underlying 47) = [(3, 0), (3, 1), (3, 2), (3, 3)] := by kernel_rfl
theorem uForm' : ∃ fs : Array Field, Tryd.prog.underlying 47 = some (.struct fs) ∧ fs.toList.map (fun f => (f.type, f.offset)) = [(3, 0), (3, 1), (3, 2), (3, 3)] := by
  have h := uForm
  generalize Tryd.prog.underlying 47 = d at *
  unfold fieldsOf at h
  split at h
  · exact ⟨_, rfl, h⟩
  · cases h

set_option maxRecDepth 100000 in
theorem trod4 {H : Type} {enc : TypeId × Value → H} {w : World} {base : Nat} {sp : Nat → Bool} {held : Bool} {fuel : Nat} {cs : List Value} {x : DataW H × List MemPlace} {a b c d : Int}
    (h : DataW.trod enc Tryd.prog w base sp held fuel 47 cs = some x) (hx : x.1 = .agg [.lit (.int .i64 a), .lit (.int .i64 b), .lit (.int .i64 c), .lit (.int .i64 d)]) :
    cs = [.int .i64 a, .int .i64 b, .int .i64 c, .int .i64 d] := by
  obtain ⟨fs, hfs, hl⟩ := uForm'
  obtain ⟨xs, n, _, rfl, hlen, hn, hel⟩ := DataW.trod_struct hfs h
  rw [cForm] at hlen
  obtain ⟨fs⟩ := fs
  match fs, hl with
  | [f0, f1, f2, f3], hl =>
    simp only [List.map_cons, List.map_nil, List.cons.injEq, Prod.mk.injEq, and_true] at hl
    obtain ⟨⟨t0, o0⟩, ⟨t1, o1⟩, ⟨t2, o2⟩, t3, o3⟩ := hl
    match xs, hn with
    | [x0, x1, x2, x3], _ =>
      match cs, hlen with
      | [c0, c1, c2, c3], _ =>
        have h0 := hel 0 f0 rfl
        have h1 := hel 1 f1 rfl
        have h2 := hel 2 f2 rfl
        have h3 := hel 3 f3 rfl
        rw [t0, o0, cInt] at h0
        rw [t1, o1, cInt] at h1
        rw [t2, o2, cInt] at h2
        rw [t3, o3, cInt] at h3
        obtain ⟨k0, e0, y0, _⟩ := DataW.trod_int Tryd.underlying3 (show DataW.trod _ _ _ _ _ _ _ _ _ = some x0 from h0)
        obtain ⟨k1, e1, y1, _⟩ := DataW.trod_int Tryd.underlying3 (show DataW.trod _ _ _ _ _ _ _ _ _ = some x1 from h1)
        obtain ⟨k2, e2, y2, _⟩ := DataW.trod_int Tryd.underlying3 (show DataW.trod _ _ _ _ _ _ _ _ _ = some x2 from h2)
        obtain ⟨k3, e3, y3, _⟩ := DataW.trod_int Tryd.underlying3 (show DataW.trod _ _ _ _ _ _ _ _ _ = some x3 from h3)
        simp at e0 e1 e2 e3
        simp [y0, y1, y2, y3] at hx
        obtain ⟨rfl, rfl, rfl, rfl⟩ := hx
        rw [e0, e1, e2, e3]

theorem fm_of_laid {W : World} (h : laidMetH Tryd.prog [("rexmill/text.forms", Rows.laid_rexmill_text_forms)] W) : FM W := by
  rw [MakeChecks.laidMetH_plain _ _ _ (by kernel_rfl)] at h
  obtain ⟨ps, ⟨g0, t0, cs0, f0, p0, q0, hg0, ht0, hv0, hd0, _, _⟩, _, _⟩ := h
  obtain rfl := Option.some.inj (gForms.symm.trans hg0)
  obtain rfl := Option.some.inj (tForms.symm.trans ht0)
  obtain ⟨xs, m, _, hx, hlen, hn, hel⟩ := DataW.trod_array uForms hd0
  rw [cForms] at hlen
  rw [cForm] at hel
  simp only [Rows.laid_rexmill_text_forms, Prod.mk.injEq, DataW.agg.injEq] at hx
  have hcell := World.var?_cell hg0 hv0
  match xs, hn, hx, hel with
  | [x0, x1, x2, x3], _, hx, hel =>
    simp only [List.map_cons, List.map_nil, List.cons.injEq, and_true] at hx
    obtain ⟨⟨y0, y1, y2, y3⟩, _⟩ := hx
    have k0 := trod4 (show DataW.trod _ _ _ _ _ _ _ _ _ = some x0 from hel 0 (by decide)) y0.symm
    have k1 := trod4 (show DataW.trod _ _ _ _ _ _ _ _ _ = some x1 from hel 1 (by decide)) y1.symm
    have k2 := trod4 (show DataW.trod _ _ _ _ _ _ _ _ _ = some x2 from hel 2 (by decide)) y2.symm
    have k3 := trod4 (show DataW.trod _ _ _ _ _ _ _ _ _ = some x3 from hel 3 (by decide)) y3.symm
    have hcs : cs0.toList = [.int .i64 0, .int .i64 127, .int .i64 0, .int .i64 0, .int .i64 128, .int .i64 2047, .int .i64 192, .int .i64 1, .int .i64 2048, .int .i64 65535, .int .i64 224, .int .i64 2, .int .i64 65536, .int .i64 1114111, .int .i64 240, .int .i64 3] := by
      have e : cs0.toList = (cs0.toList.drop 0).take 4 ++ ((cs0.toList.drop 4).take 4 ++ ((cs0.toList.drop 8).take 4 ++ (cs0.toList.drop 12).take 4)) := by
        obtain ⟨l⟩ := cs0
        match l, hlen with
        | [c0, c1, c2, c3, c4, c5, c6, c7, c8, c9, c10, c11, c12, c13, c14, c15], _ => rfl
      rw [e, show (cs0.toList.drop 0).take 4 = _ from k0, show (cs0.toList.drop 4).take 4 = _ from k1, show (cs0.toList.drop 8).take 4 = _ from k2, show (cs0.toList.drop 12).take 4 = _ from k3]
      rfl
    intro j hj
    rw [hcell j, ← Array.getElem?_toList, hcs, show [Value.int .i64 0, .int .i64 127, .int .i64 0, .int .i64 0, .int .i64 128, .int .i64 2047, .int .i64 192, .int .i64 1, .int .i64 2048, .int .i64 65535, .int .i64 224, .int .i64 2, .int .i64 65536, .int .i64 1114111, .int .i64 240, .int .i64 3] = formsL.map (Value.int .i64) from rfl]
    rw [List.getElem?_map, List.getElem?_eq_getElem (show j < formsL.length from hj)]
    simp [List.getD, show j < formsL.length from hj]

/-- The door's own heap meets the condition. -/
theorem door_met (os : Os) (args : Array Value) : laidMetH Tryd.prog [("rexmill/text.forms", Rows.laid_rexmill_text_forms)] ((World.doorLaid Tryd.prog 400 os).forCall (fun _ _ => 0) ⟨#[], args, []⟩).memory :=
  laidMetH_of_parts3 (fuel := 8) (laidMet_of_run' 8 (by kernel_rfl) (by kernel_rfl)) (by kernel_rfl) (by kernel_rfl)
end Go.Proofs.YtmofakcpldbbmaaDoor
