/- Package proto: valid. -/
import Derived.Test.YtadhghikanjkeaaPrtB
import Derived.Test.YtadhghikanjkeaaWireL
import Derived.Test.YtadhghikanjkeaaHash
namespace Go.Proofs.Ytadhghikanjkeaa
open Go.RowKit

/-- A message in a block of its own; a value that reads as a message. -/
def MsgB (w : World) (b : Nat) (v : Value) : Prop := ∃ cs : Array Value, v = .agg cs ∧ w.heap[b]? = some (.cells cs 33 (0, 0))
/-- The six cells of a message. -/
structure Cells6 (w : World) (m : Msg) (ab af : Option Addr) (cb cf : Nat) : Prop where
  body : Rv w (.slice ab m.body.length cb) m.body.length (m.body.map vB)
  fnd : Rv w (.slice af m.fnd.length cf) m.fnd.length (fcells m.fnd)
theorem Cells6.below {w w' : World} {m : Msg} {ab af : Option Addr} {cb cf : Nat} (h : Cells6 w m ab af cb cf) (hb : Below w.heap.size w w') : Cells6 w' m ab af cb cf := ⟨h.body.below hb, h.fnd.below hb⟩
def msgV (m : Msg) (ab af : Option Addr) (cb cf : Nat) : Value := .agg #[.int .i64 m.k, .int .i64 m.c, .int .i64 m.v, .int .i64 m.o, .slice ab m.body.length cb, .slice af m.fnd.length cf]

theorem check_any (n lo hi : Int) (b : Nat) (t : Bool) (w : World) (hb : Boxed w b 4 (.bool t)) :
    Calls Try.prog 52 #[.int .i64 n, .int .i64 lo, .int .i64 hi, .pointer (some ⟨b, 0, none⟩)] w fun e w' => e = .returned (.tuple #[]) ∧ w' = w.setCell ⟨b, 0, none⟩ (.bool (t && inR n lo hi)) := by
  have hc := hb.cell
  have hf := hb.frozen
  have hi2 : inR n lo hi = (decide (lo ≤ n) && decide (n ≤ hi)) := by rw [inR, Bool.decide_and]
  rw [hi2]
  clear hi2
  go_enter Try.func52, Try.ntmps52
  cases t <;> by_cases h1 : lo ≤ n <;> by_cases h2 : n ≤ hi
  all_goals
    simp only [h1, h2, decide_true, decide_false, Bool.and_true, Bool.and_false]
    go_wp2_with fail
    go_end0
    exact ⟨rfl, rfl⟩

/-- Where valid stands: the message's block, the flag's, nothing else has changed. -/
structure VSt (w W : World) (m : Msg) (ab af : Option Addr) (cb cf : Nat) (t : Bool) : Prop where
  blk : W.heap[w.heap.size]? = some (.cells #[.int .i64 m.k, .int .i64 m.c, .int .i64 m.v, .int .i64 m.o, .slice ab m.body.length cb, .slice af m.fnd.length cf] 33 (0, 0))
  ok : Boxed W (w.heap.size + 1) 4 (.bool t)
  bel : Below w.heap.size w W
section
variable {w W W' : World} {m : Msg} {ab af : Option Addr} {cb cf : Nat} {t t' : Bool}
theorem VSt.c0 (h : VSt w W m ab af cb cf t) : W.cell? ⟨w.heap.size, 0, none⟩ = some (.int .i64 m.k) := by simp [World.cell?, h.blk]
theorem VSt.c1 (h : VSt w W m ab af cb cf t) : W.cell? ⟨w.heap.size, 1, none⟩ = some (.int .i64 m.c) := by simp [World.cell?, h.blk]
theorem VSt.c2 (h : VSt w W m ab af cb cf t) : W.cell? ⟨w.heap.size, 2, none⟩ = some (.int .i64 m.v) := by simp [World.cell?, h.blk]
theorem VSt.c3 (h : VSt w W m ab af cb cf t) : W.cell? ⟨w.heap.size, 3, none⟩ = some (.int .i64 m.o) := by simp [World.cell?, h.blk]
theorem VSt.c4 (h : VSt w W m ab af cb cf t) : W.cell? ⟨w.heap.size, 4, none⟩ = some (.slice ab m.body.length cb) := by simp [World.cell?, h.blk]
theorem VSt.c5 (h : VSt w W m ab af cb cf t) : W.cell? ⟨w.heap.size, 5, none⟩ = some (.slice af m.fnd.length cf) := by simp [World.cell?, h.blk]
theorem VSt.step (h : VSt w W m ab af cb cf t) (hw : W' = W.setCell ⟨w.heap.size + 1, 0, none⟩ (.bool t')) : VSt w W' m ab af cb cf t' := by
  subst hw
  exact ⟨(Below.heap_setCell _ _ _ _ (by simp)).trans h.blk, h.ok.set _, h.bel.setCell (p := ⟨w.heap.size + 1, 0, none⟩) (by simp) _⟩
theorem VSt.alloc (h : VSt w W m ab af cb cf t) (o : Obj) : VSt w (W.alloc o) m ab af cb cf t :=
  ⟨(Below.heap_alloc _ _ _ (Array.getElem?_eq_some_iff.1 h.blk).1).trans h.blk, h.ok.alloc o, h.bel.alloc h.bel.size o⟩
end
theorem fcells_at {l : List F3} {i : Nat} (hi : i < l.length) : (fcells l)[i * 3]? = some (.int .i64 l[i].r) ∧ (fcells l)[i * 3 + 1]? = some (.int .i64 l[i].s) ∧ (fcells l)[i * 3 + 2]? = some (.int .i64 l[i].e) := by
  induction l generalizing i with
  | nil => simp at hi
  | cons f l ih =>
    have e : fcells (f :: l) = f.cells ++ fcells l := rfl
    have hl : f.cells.length = 3 := rfl
    cases i with
    | zero => rw [e]; exact ⟨rfl, rfl, rfl⟩
    | succ i =>
      have := ih (i := i) (by simpa using hi)
      rw [e, show (i + 1) * 3 = 3 + i * 3 from by omega]
      refine ⟨?_, ?_, ?_⟩
      · rw [List.getElem?_append_right (by rw [hl]; omega), hl, Nat.add_sub_cancel_left]; exact this.1
      · rw [List.getElem?_append_right (by rw [hl]; omega), hl, show 3 + i * 3 + 1 - 3 = i * 3 + 1 from by omega]; exact this.2.1
      · rw [List.getElem?_append_right (by rw [hl]; omega), hl, show 3 + i * 3 + 2 - 3 = i * 3 + 2 from by omega]; exact this.2.2

set_option maxRecDepth 20000 in
set_option maxHeartbeats 2000000 in
theorem valid_any (m : Msg) (ab af : Option Addr) (cb cf : Nat) (w : World) (hm : Cells6 w m ab af cb cf) :
    Calls Try.prog 33 #[msgV m ab af cb cf] w fun e w' => e = .returned (.bool (validM m)) ∧ Below w.heap.size w w' := by
  have hf := hm.fnd
  have hlm := hm.body.len
  have hlf := hm.fnd.len
  unfold maxLen at hlm hlf
  unfold msgV
  go_enter Try.func33, Try.ntmps33
  go_wp2_with fail
  have V0 : VSt w ((w.alloc (.cells #[.int .i64 m.k, .int .i64 m.c, .int .i64 m.v, .int .i64 m.o, .slice ab m.body.length cb, .slice af m.fnd.length cf] 33)).alloc (.cells #[.bool true] 4)) m ab af cb cf true :=
    ⟨(Below.heap_alloc _ _ _ (by simp)).trans (World.alloc_heap_new w _), by have := Boxed.new (w.alloc (.cells #[.int .i64 m.k, .int .i64 m.c, .int .i64 m.v, .int .i64 m.o, .slice ab m.body.length cb, .slice af m.fnd.length cf] 33)) 4 (.bool true); rwa [World.size_alloc] at this, ((Below.refl _ w).alloc (Nat.le_refl _) _).alloc (by simp) _⟩
  refine (check_any _ _ _ _ _ _ V0.ok).mono ?_
  rintro e w1 ⟨rfl, h1⟩
  have V1 := V0.step h1
  have k1 := V1.c1
  clear h1 V0
  go_wp2_with fail
  refine (check_any _ _ _ _ _ _ V1.ok).mono ?_
  rintro e w2 ⟨rfl, h2⟩
  have V2 := V1.step h2
  have k2 := V2.c2
  clear h2 V1 k1
  go_wp2_with fail
  refine (check_any _ _ _ _ _ _ V2.ok).mono ?_
  rintro e w3 ⟨rfl, h3⟩
  have V3 := V2.step h3
  have k3 := V3.c3
  clear h3 V2 k2
  go_wp2_with fail
  refine (check_any _ _ _ _ _ _ V3.ok).mono ?_
  rintro e w4 ⟨rfl, h4⟩
  have V4 := V3.step h4
  have k4 := V4.c4
  clear h4 V3 k3
  go_wp2_with fail
  refine (check_any _ _ _ _ _ _ V4.ok).mono ?_
  rintro e w5 ⟨rfl, h5⟩
  have V5 := V4.step h5
  have k5 := V5.c5
  clear h5 V4 k4
  go_wp2_with fail
  refine (check_any _ _ _ _ _ _ V5.ok).mono ?_
  rintro e w6 ⟨rfl, h6⟩
  have V6 := V5.step h6
  clear h6 V5 k5
  have hh : (true && inR m.k 0 6 && inR m.c 0 1099511627776 && inR m.v (-1) 1024 && inR m.o 0 1000 && inR (m.body.length : Int) 0 65536 && inR (m.fnd.length : Int) 0 1024) = headM m := by
    have e1 : inR (m.body.length : Int) 0 65536 = decide (m.body.length ≤ 65536) := by rw [inR]; congr 1; apply propext; omega
    have e2 : inR (m.fnd.length : Int) 0 1024 = decide (m.fnd.length ≤ 1024) := by rw [inR]; congr 1; apply propext; omega
    rw [e1, e2, headM, Bool.true_and]
  rw [hh] at V6
  clear hh
  cases ht : headM m
  · have hv : validM m = false := by rw [validM, ht, Bool.false_and]
    rw [ht] at V6
    have kc := V6.ok.cell
    go_wp2_with fail
    go_ret
    exact ⟨ret_val (by rw [hv]; rfl), V6.bel⟩
  · have hv : validM m = m.fnd.all F3.ok := by rw [validM, ht, Bool.true_and]
    rw [ht] at V6
    have kc := V6.ok.cell
    have k5 := V6.c5
    have HV := Lib.hid hv
    clear hv ht
    go_wp2_with fail
    clear kc k5
    rename World => w6
    go_loopw [39] (fun iv wr => ∃ i : Nat, iv = .int .i64 (i : Int) ∧ i ≤ m.fnd.length ∧ VSt w wr m ab af cb cf ((m.fnd.take i).all F3.ok)) (fun iv _ => m.fnd.length - (intOf iv).toNat)
    case atStart => exact ⟨0, by first | rfl | trivial, Nat.zero_le _, V6⟩
    case round =>
      obtain ⟨i, rfl, hi, V⟩ := hrel
      by_cases hlt : i < m.fnd.length
      · obtain ⟨g1, g2, g3⟩ := fcells_at hlt
        have hfr := hf.below V.bel
        obtain ⟨b1, o1, rfl, c1⟩ := hfr.rd.cell g1
        obtain ⟨b2, o2, e2, c2⟩ := hfr.rd.cell g2
        cases e2
        obtain ⟨b3, o3, e3, c3⟩ := hfr.rd.cell g3
        cases e3
        have hall : (m.fnd.take (i + 1)).all F3.ok = ((m.fnd.take i).all F3.ok && inR m.fnd[i].r (-1099511627776) 1099511627776 && inR m.fnd[i].s (-1099511627776) 1099511627776 && inR m.fnd[i].e (-1099511627776) 1099511627776) := by
          rw [List.take_succ_eq_append_getElem hlt, List.all_append]
          simp only [List.all_cons, List.all_nil, Bool.and_true, F3.ok, Bool.and_assoc]
        generalize m.fnd[i] = f at *
        obtain ⟨fr, fs, fe⟩ := f
        simp only at c1 c2 c3 hall
        have HALL := Lib.hid hall
        rw [← Nat.add_assoc] at c2 c3
        clear hall g1 g2 g3 hfr
        go_wp2_with fail
        have W1 := V.alloc (.cells #[.int .i64 fr, .int .i64 fs, .int .i64 fe] 79)
        have q0 := World.alloc_heap_new wr (.cells #[.int .i64 fr, .int .i64 fs, .int .i64 fe] 79)
        have hsz : w.heap.size + 1 < wr.heap.size := V.ok.lt
        refine (check_any _ _ _ _ _ _ W1.ok).mono ?_
        rintro e x1 ⟨rfl, h1⟩
        have X1 := W1.step h1
        have q1 : x1.heap[wr.heap.size]? = some (.cells #[.int .i64 fr, .int .i64 fs, .int .i64 fe] 79) := by rw [h1, Below.heap_setCell _ _ _ _ (by simp; omega)]; exact q0
        have r1 : x1.cell? ⟨wr.heap.size, 1, none⟩ = some (.int .i64 fs) := by simp [World.cell?, q1]
        clear h1 W1 q0 c1 c2 c3
        go_wp2_with fail
        refine (check_any _ _ _ _ _ _ X1.ok).mono ?_
        rintro e x2 ⟨rfl, h2⟩
        have X2 := X1.step h2
        have q2 : x2.heap[wr.heap.size]? = some (.cells #[.int .i64 fr, .int .i64 fs, .int .i64 fe] 79) := by rw [h2, Below.heap_setCell _ _ _ _ (by simp; omega)]; exact q1
        have r2 : x2.cell? ⟨wr.heap.size, 2, none⟩ = some (.int .i64 fe) := by simp [World.cell?, q2]
        clear h2 X1 q1 r1
        go_wp2_with fail
        refine (check_any _ _ _ _ _ _ X2.ok).mono ?_
        rintro e x3 ⟨rfl, h3⟩
        have X3 := X2.step h3
        rw [← HALL.out] at X3
        clear h3 X2 q2 r2
        go_wp2_with fail
        go_roundw
        case rel => exact ⟨i + 1, by go_num, by omega, X3⟩
        case measure => simp [intOf]; omega
      · obtain rfl : i = m.fnd.length := by omega
        rw [List.take_length] at V
        have kc := V.ok.cell
        go_wp2_with fail
        go_ret
        exact ⟨ret_val (by rw [HV.out]; rfl), V.bel⟩
end Go.Proofs.Ytadhghikanjkeaa
