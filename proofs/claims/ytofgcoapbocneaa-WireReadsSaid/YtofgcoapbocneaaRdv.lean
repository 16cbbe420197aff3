/- law02.read: a value of a kind. -/
import Derived.Test.YtofgcoapbocneaaBox
namespace Go.Proofs.Ytofgcoapbocneaa
open Go.RowKit

def rdV (k : Int) (s : RS) : V × RS :=
  if k = 0 then (⟨k, (rdU s).1, 0, [], []⟩, (rdU s).2)
  else if k = 1 then (⟨k, 0, (rdI s).1, [], []⟩, (rdI s).2)
  else if k = 2 then (⟨k, 0, if (rdB s).1 then 1 else 0, [], []⟩, (rdB s).2)
  else if k = 3 ∨ k = 4 then (⟨k, 0, 0, (rdRaw s).1, []⟩, (rdRaw s).2)
  else (⟨k, 0, 0, [], (rdInts s).1⟩, (rdInts s).2)

/-- A value read: it stands, its rows are new. -/
def VPost (w : World) (b : Nat) (v : Value) (bs : List UInt8) (q : V × RS) (en : Ending) (w' : World) : Prop :=
  ∃ vb vl, en = .returned (q.1.val vb vl) ∧ Rst w' b v bs q.2 ∧ BStep b w w' ∧ RvV w' w'.heap.size q.1 vb vl ∧ (∀ g, vb.ownBlock = some g → w.heap.size ≤ g) ∧ (∀ g, vl.ownBlock = some g → w.heap.size ≤ g)

theorem low_nil (n : Nat) : Low n (.slice none 0 0) := fun g hg => by cases hg
theorem new_nil (n : Nat) : ∀ g, (Value.slice none 0 0).ownBlock = some g → n ≤ g := fun g hg => by cases hg

/-- The two variables of a read. -/
def twoV (w : World) (k : Int) : World := (w.alloc (.cells #[.int .i64 0, .int .u64 0, .int .i64 0, .slice none 0 0, .slice none 0 0] 47)).alloc (.cells #[.int .i64 k, .int .u64 0, .int .i64 0, .slice none 0 0, .slice none 0 0] 47)
theorem twoV_below (w : World) (k : Int) : Below w.heap.size w (twoV w k) := ((Below.refl _ w).alloc (Nat.le_refl _) _).alloc (by simp) _
theorem twoV_a (w : World) (k : Int) : Box5 (twoV w k) w.heap.size (.int .i64 0) (.int .u64 0) (.int .i64 0) (.slice none 0 0) (.slice none 0 0) := (Box5.new w _ _ _ _ _).alloc _
theorem twoV_c (w : World) (k : Int) : Box5 (twoV w k) (w.heap.size + 1) (.int .i64 k) (.int .u64 0) (.int .i64 0) (.slice none 0 0) (.slice none 0 0) := by
  have h := Box5.new (w.alloc (.cells #[.int .i64 0, .int .u64 0, .int .i64 0, .slice none 0 0, .slice none 0 0] 47)) (.int .i64 k) (.int .u64 0) (.int .i64 0) (.slice none 0 0) (.slice none 0 0)
  rw [World.size_alloc] at h
  exact h
theorem twoV_size (w : World) (k : Int) : (twoV w k).heap.size = w.heap.size + 2 := by simp [twoV]

/-- The world behind the last copy into the result's variable. -/
def fiveV (w : World) (a : Nat) (c0 c1 c2 c3 c4 : Value) : World := ((((w.setCell ⟨a, 0, none⟩ c0).setCell ⟨a, 1, none⟩ c1).setCell ⟨a, 2, none⟩ c2).setCell ⟨a, 3, none⟩ c3).setCell ⟨a, 4, none⟩ c4
theorem fiveV_box {w : World} {a : Nat} {d0 d1 d2 d3 d4 : Value} (h : Box5 w a d0 d1 d2 d3 d4) (c0 c1 c2 c3 c4 : Value) : Box5 (fiveV w a c0 c1 c2 c3 c4) a c0 c1 c2 c3 c4 := ((((h.s0 c0).s1 c1).s2 c2).s3 c3).s4 c4
theorem fiveV_below {w0 w : World} {n a : Nat} (h : Below n w0 w) (hn : n ≤ a) (c0 c1 c2 c3 c4 : Value) : Below n w0 (fiveV w a c0 c1 c2 c3 c4) :=
  ((((h.setCell (p := ⟨a, 0, none⟩) hn c0).setCell (p := ⟨a, 1, none⟩) hn c1).setCell (p := ⟨a, 2, none⟩) hn c2).setCell (p := ⟨a, 3, none⟩) hn c3).setCell (p := ⟨a, 4, none⟩) hn c4
theorem fiveV_bstep (w : World) (a : Nat) (c0 c1 c2 c3 c4 : Value) : BStep a w (fiveV w a c0 c1 c2 c3 c4) := (((((BStep.refl a w).set 0 c0).set 1 c1).set 2 c2).set 3 c3).set 4 c4
theorem fiveV_size (w : World) (a : Nat) (c0 c1 c2 c3 c4 : Value) : (fiveV w a c0 c1 c2 c3 c4).heap.size = w.heap.size := by simp [fiveV]

theorem vdone {w w1 w2 : World} {b : Nat} {v : Value} {bs : List UInt8} {s : RS} {q : V × RS} {vb vl : Value} (h : Rst w b v bs s) (hB : BStep b w w1) (T1 : Rst w1 b v bs q.2) (hb : Below w.heap.size w1 w2)
    (R : RvV w2 w2.heap.size q.1 vb vl) (nb : ∀ g, vb.ownBlock = some g → w.heap.size < g) (nl : ∀ g, vl.ownBlock = some g → w.heap.size < g) (c0 c1 c2 c3 c4 : Value) :
    VPost w b v bs q (.returned (q.1.val vb vl)) (fiveV w2 w.heap.size c0 c1 c2 c3 c4) := by
  have hb2 := fiveV_below hb (Nat.le_refl _) c0 c1 c2 c3 c4
  have hS := fiveV_bstep w2 w.heap.size c0 c1 c2 c3 c4
  have hz := fiveV_size w2 w.heap.size c0 c1 c2 c3 c4
  refine ⟨vb, vl, rfl, h.next T1 hB hb2, hB.later hb2, ⟨R.b.bstep hS (fun e => by have := nb _ e; omega), R.l.bstep hS (fun e => by have := nl _ e; omega), by rw [hz]; exact R.bl, by rw [hz]; exact R.ll⟩, fun g hg => Nat.le_of_lt (nb g hg), fun g hg => Nat.le_of_lt (nl g hg)⟩

/-- '[]byte(s)', with the place of the new row. -/
theorem wpList_tobytes2 {P : Program} {ops : Array Oper} {rest : List Oper} {o : Oper} {a : Act} {w : World} {Q : Exit → Act → World → Prop} (hgd : o.guard = none) {src dst e : TypeId} (x : Operand)
    (ho : o.op = .convert src dst x) (s : ByteArray) (hx : a.eval x = .string s) (hs : P.underlying src = some .string) (hd : P.underlying dst = some (.slice e)) (he : P.underlying e = some (.int .u8)) (hm : s.size ≤ maxLen)
    (h : ∀ k c w', Rv w' (.slice (some ⟨w.heap.size, 0, none⟩) k c) s.data.toList.length (s.data.toList.map vB) → Below w.heap.size w w' → w'.heap.size = w.heap.size + 1 → wpList P ops Q rest (a.put o.dst (.slice (some ⟨w.heap.size, 0, none⟩) k c)) w') : wpList P ops Q (o :: rest) a w := by
  obtain ⟨v', w', hr, h2, h3⟩ := run_tobytes (P := P) w src dst e s hs hd he hm
  have hq := run_bytes_of_string (P := P) w src dst e s hs hd he
  rw [hr] at hq
  injection hq with hv hw
  refine wpList_plain hgd fun K hK => ?_
  unfold Oper.wp
  simp [execOp, ho, hx, hr, Result.andThen]
  subst hv
  refine hK _ _ (h _ _ w' h2 h3 ?_)
  rw [hw]
  show (w.heap.push _).size = _
  simp

theorem pU_len (i : Nat) (l : List UInt8) {v : Nat} {r : List UInt8} (h : pU i l = .ok (v, r)) : r.length < l.length := by
  induction l generalizing i v r with
  | nil => cases h
  | cons c cs ih =>
    rw [pU] at h
    split at h
    · cases h
    split at h
    · cases h; simp
    · cases hp : pU (i + 1) cs with
      | error e => rw [hp] at h; cases h
      | ok q => rw [hp] at h; cases h; have := ih _ hp; simp; omega
/-- The bytes that are left. -/
def left : RS → Nat
  | .ok l => l.length
  | .error _ => 0
theorem rdU_left (s : RS) : left (rdU s).2 ≤ left s := by
  cases s with
  | error e => exact Nat.le_refl _
  | ok l =>
    show left (ofP (pU 0 l)).2 ≤ l.length
    cases hp : pU 0 l with
    | error e => exact Nat.zero_le _
    | ok q => exact Nat.le_of_lt (pU_len 0 l hp)
theorem rdRaw_len (s : RS) : (rdRaw s).1.length ≤ left s := by
  have hl := rdU_left s
  unfold rdRaw rdL
  generalize rdU s = q at hl ⊢
  obtain ⟨n, t⟩ := q
  cases t with
  | error e => simp
  | ok r =>
    by_cases hn : r.length < n
    · simp [hn]
    · have : r.length ≤ left s := hl
      simp [hn]
      omega
theorem Rst.left {w : World} {b : Nat} {v : Value} {bs : List UInt8} {s : RS} (h : Rst w b v bs s) : left s ≤ bs.length := by
  cases s with
  | error e => exact Nat.zero_le _
  | ok l =>
    obtain ⟨k, hk, rfl, _⟩ := h.ok_inv
    show (bs.drop k).length ≤ _
    simp

set_option maxHeartbeats 4000000 in
theorem lread_any (b : Nat) (v : Value) (bs : List UInt8) (s : RS) (k : Int) (w : World) (hR : Rst w b v bs s) (hl : bs.length ≤ 1099511627776) :
    Calls Try.prog 23 #[.pointer (some ⟨b, 0, none⟩), .int .i64 k] w (VPost w b v bs (rdV k s)) := by
  have hbl := hR.lt
  have h2 := hR.later (twoV_below w k)
  have A0 := twoV_a w k
  have C0 := twoV_c w k
  by_cases h0 : k = 0
  · subst h0
    go_enter Try.func23, Try.ntmps23
    go_wp2_with fail
    refine (ruint_any b v bs s (twoV w 0) h2).mono ?_
    rintro e w1 ⟨rfl, T1, S1⟩
    have hz := twoV_size w (0)
    have S0 : BStep b w w1 := (BStep.of_below (twoV_below w (0))).trans S1
    have A1 := A0.bstep S1 (by omega)
    have C1 := C0.bstep S1 (by omega)
    have f1 := C1.fr 1
    have g0 := C1.k0
    have g1 := C1.k1
    have g2 := C1.k2
    have g3 := C1.k3
    have g4 := C1.k4
    have e0 := A1.k0
    have e1 := A1.k1
    have e2 := A1.k2
    have e3 := A1.k3
    have e4 := A1.k4
    have fa0 := A1.fr 0
    have fa1 := A1.fr 1
    have fa2 := A1.fr 2
    have fa3 := A1.fr 3
    have fa4 := A1.fr 4
    go_wp2_with fail
    have hb1 : Below w.heap.size w1 (w1.setCell ⟨w.heap.size + 1, 1, none⟩ (.int .u64 ((rdU s).1 : Int))) := (Below.refl _ w1).setCell (p := ⟨w.heap.size + 1, 1, none⟩) (by show w.heap.size ≤ w.heap.size + 1; omega) _
    have A2 : Box5 (w1.setCell ⟨w.heap.size + 1, 1, none⟩ (.int .u64 ((rdU s).1 : Int))) w.heap.size (.int .i64 0) (.int .u64 0) (.int .i64 0) (.slice none 0 0) (.slice none 0 0) := A1.kept (Below.heap_setCell _ _ _ _ (by show w.heap.size ≠ w.heap.size + 1; omega))
    refine bodyPost_ret (results_val rfl _ rfl (fiveV_box A2 _ _ _ _ _)) rfl ?_
    exact vdone hR S0 T1 hb1 ⟨Rv.nil _, Rv.nil _, low_nil _, low_nil _⟩ (new_nil _) (new_nil _) _ _ _ _ _
  · have q0 : (k == 0) = false := beq_eq_false_iff_ne.2 h0
    by_cases h1 : k = 1
    · subst h1
      go_enter Try.func23, Try.ntmps23
      go_wp2_with fail
      refine (rint_any b v bs s (twoV w 1) h2).mono ?_
      rintro e w1 ⟨rfl, T1, S1⟩
      have hz := twoV_size w (1)
      have S0 : BStep b w w1 := (BStep.of_below (twoV_below w (1))).trans S1
      have A1 := A0.bstep S1 (by omega)
      have C1 := C0.bstep S1 (by omega)
      have f1 := C1.fr 2
      have g0 := C1.k0
      have g1 := C1.k1
      have g2 := C1.k2
      have g3 := C1.k3
      have g4 := C1.k4
      have e0 := A1.k0
      have e1 := A1.k1
      have e2 := A1.k2
      have e3 := A1.k3
      have e4 := A1.k4
      have fa0 := A1.fr 0
      have fa1 := A1.fr 1
      have fa2 := A1.fr 2
      have fa3 := A1.fr 3
      have fa4 := A1.fr 4
      go_wp2_with fail
      have hb1 : Below w.heap.size w1 (w1.setCell ⟨w.heap.size + 1, 2, none⟩ (.int .i64 (rdI s).1)) := (Below.refl _ w1).setCell (p := ⟨w.heap.size + 1, 2, none⟩) (by show w.heap.size ≤ w.heap.size + 1; omega) _
      have A2 : Box5 (w1.setCell ⟨w.heap.size + 1, 2, none⟩ (.int .i64 (rdI s).1)) w.heap.size (.int .i64 0) (.int .u64 0) (.int .i64 0) (.slice none 0 0) (.slice none 0 0) := A1.kept (Below.heap_setCell _ _ _ _ (by show w.heap.size ≠ w.heap.size + 1; omega))
      refine bodyPost_ret (results_val rfl _ rfl (fiveV_box A2 _ _ _ _ _)) rfl ?_
      exact vdone hR S0 T1 hb1 ⟨Rv.nil _, Rv.nil _, low_nil _, low_nil _⟩ (new_nil _) (new_nil _) _ _ _ _ _
    · have q1 : (k == 1) = false := beq_eq_false_iff_ne.2 h1
      by_cases h2' : k = 2
      · subst h2'
        have hcall := rbool_any b v bs s (twoV w 2) h2
        have hq : rdV 2 s = (⟨2, 0, if (rdB s).1 then 1 else 0, [], []⟩, (rdB s).2) := rfl
        rw [hq]
        generalize rdB s = r at *
        obtain ⟨t, s'⟩ := r
        cases t
        · go_enter Try.func23, Try.ntmps23
          go_wp2_with fail
          refine (hcall).mono ?_
          rintro e w1 ⟨rfl, T1, S1⟩
          have hz := twoV_size w (2)
          have S0 : BStep b w w1 := (BStep.of_below (twoV_below w (2))).trans S1
          have A1 := A0.bstep S1 (by omega)
          have C1 := C0.bstep S1 (by omega)
          have g0 := C1.k0
          have g1 := C1.k1
          have g2 := C1.k2
          have g3 := C1.k3
          have g4 := C1.k4
          have e0 := A1.k0
          have e1 := A1.k1
          have e2 := A1.k2
          have e3 := A1.k3
          have e4 := A1.k4
          have fa0 := A1.fr 0
          have fa1 := A1.fr 1
          have fa2 := A1.fr 2
          have fa3 := A1.fr 3
          have fa4 := A1.fr 4
          go_wp2_with fail
          have hb1 : Below w.heap.size w1 (w1) := Below.refl _ w1
          have A2 : Box5 (w1) w.heap.size (.int .i64 0) (.int .u64 0) (.int .i64 0) (.slice none 0 0) (.slice none 0 0) := A1
          refine bodyPost_ret (results_val rfl _ rfl (fiveV_box A2 _ _ _ _ _)) rfl ?_
          exact vdone hR S0 T1 hb1 ⟨Rv.nil _, Rv.nil _, low_nil _, low_nil _⟩ (new_nil _) (new_nil _) _ _ _ _ _
        · go_enter Try.func23, Try.ntmps23
          go_wp2_with fail
          refine (hcall).mono ?_
          rintro e w1 ⟨rfl, T1, S1⟩
          have hz := twoV_size w (2)
          have S0 : BStep b w w1 := (BStep.of_below (twoV_below w (2))).trans S1
          have A1 := A0.bstep S1 (by omega)
          have C1 := C0.bstep S1 (by omega)
          have f1 := C1.fr 2
          have g0 := C1.k0
          have g1 := C1.k1
          have g2 := C1.k2
          have g3 := C1.k3
          have g4 := C1.k4
          have e0 := A1.k0
          have e1 := A1.k1
          have e2 := A1.k2
          have e3 := A1.k3
          have e4 := A1.k4
          have fa0 := A1.fr 0
          have fa1 := A1.fr 1
          have fa2 := A1.fr 2
          have fa3 := A1.fr 3
          have fa4 := A1.fr 4
          go_wp2_with fail
          have hb1 : Below w.heap.size w1 (w1.setCell ⟨w.heap.size + 1, 2, none⟩ (.int .i64 1)) := (Below.refl _ w1).setCell (p := ⟨w.heap.size + 1, 2, none⟩) (by show w.heap.size ≤ w.heap.size + 1; omega) _
          have A2 : Box5 (w1.setCell ⟨w.heap.size + 1, 2, none⟩ (.int .i64 1)) w.heap.size (.int .i64 0) (.int .u64 0) (.int .i64 0) (.slice none 0 0) (.slice none 0 0) := A1.kept (Below.heap_setCell _ _ _ _ (by show w.heap.size ≠ w.heap.size + 1; omega))
          refine bodyPost_ret (results_val rfl _ rfl (fiveV_box A2 _ _ _ _ _)) rfl ?_
          exact vdone hR S0 T1 hb1 ⟨Rv.nil _, Rv.nil _, low_nil _, low_nil _⟩ (new_nil _) (new_nil _) _ _ _ _ _
      · have q2 : (k == 2) = false := beq_eq_false_iff_ne.2 h2'
        by_cases h4 : k = 4
        · subst h4
          go_enter Try.func23, Try.ntmps23
          go_wp2_with fail
          refine (rraw_any b v bs s (twoV w 4) h2 hl).mono ?_
          rintro e w1 ⟨v1, rfl, O1, T1, S1⟩
          obtain ⟨k1, a1, c1, rfl⟩ := own_shape O1
          rw [List.length_map] at O1
          have hz := twoV_size w (4)
          have S0 : BStep b w w1 := (BStep.of_below (twoV_below w (4))).trans S1
          have A1 := A0.bstep S1 (by omega)
          have C1 := C0.bstep S1 (by omega)
          have f1 := C1.fr 3
          have g0 := C1.k0
          have g1 := C1.k1
          have g2 := C1.k2
          have g3 := C1.k3
          have g4 := C1.k4
          have e0 := A1.k0
          have e1 := A1.k1
          have e2 := A1.k2
          have e3 := A1.k3
          have e4 := A1.k4
          have fa0 := A1.fr 0
          have fa1 := A1.fr 1
          have fa2 := A1.fr 2
          have fa3 := A1.fr 3
          have fa4 := A1.fr 4
          go_wp2_with fail
          have hb1 : Below w.heap.size w1 (w1.setCell ⟨w.heap.size + 1, 3, none⟩ (.slice a1 k1 c1)) := (Below.refl _ w1).setCell (p := ⟨w.heap.size + 1, 3, none⟩) (by show w.heap.size ≤ w.heap.size + 1; omega) _
          have A2 : Box5 (w1.setCell ⟨w.heap.size + 1, 3, none⟩ (.slice a1 k1 c1)) w.heap.size (.int .i64 0) (.int .u64 0) (.int .i64 0) (.slice none 0 0) (.slice none 0 0) := A1.kept (Below.heap_setCell _ _ _ _ (by show w.heap.size ≠ w.heap.size + 1; omega))
          refine bodyPost_ret (results_val rfl _ rfl (fiveV_box A2 _ _ _ _ _)) rfl ?_
          exact vdone hR S0 T1 hb1 ⟨((Rv.of_own O1).bstep ((BStep.refl (w.heap.size + 1) w1).set 3 _) (fun e => by have := (O1.lt _ e).1; omega)), Rv.nil _, (fun g hg => by have := (O1.lt g hg).2; simp; omega), low_nil _⟩ (fun g hg => by have := (O1.lt g hg).1; omega) (new_nil _) _ _ _ _ _
        · have q4 : (k == 4) = false := beq_eq_false_iff_ne.2 h4
          by_cases h3 : k = 3
          · subst h3
            go_enter Try.func23, Try.ntmps23
            go_wp2_with fail
            refine (rtext_any b v bs s (twoV w 3) h2 hl).mono ?_
            rintro e w1 ⟨rfl, T1, S1⟩
            have hz := twoV_size w (3)
            have S0 : BStep b w w1 := (BStep.of_below (twoV_below w (3))).trans S1
            have A1 := A0.bstep S1 (by omega)
            have C1 := C0.bstep S1 (by omega)
            have hsz : (⟨(rdRaw s).1.toArray⟩ : ByteArray).size ≤ maxLen := by
              have h1 := rdRaw_len s
              have h2 := hR.left
              show (rdRaw s).1.toArray.size ≤ _
              simp [maxLen]
              omega
            have hc1 := C1.lt
            go_wp2_with (refine wpList_tobytes2 rfl _ rfl ⟨(rdRaw s).1.toArray⟩ rfl Try.underlying9 Try.underlying24 Try.underlying5 hsz ?_; intro k1 z1 w2 hr2 hB2 hz2; have A1' := A1.kept (hB2.block _ A1.lt); have C1' := C1.kept (hB2.block _ C1.lt); have f1 := C1'.fr 3; have g0 := C1'.k0; have g1 := C1'.k1; have g2 := C1'.k2; have g3 := C1'.k3; have g4 := C1'.k4; have e0 := A1'.k0; have e1 := A1'.k1; have e2 := A1'.k2; have e3 := A1'.k3; have e4 := A1'.k4; have fa0 := A1'.fr 0; have fa1 := A1'.fr 1; have fa2 := A1'.fr 2; have fa3 := A1'.fr 3; have fa4 := A1'.fr 4)
            have hb1 : Below w.heap.size w1 (w2.setCell ⟨w.heap.size + 1, 3, none⟩ (.slice (some ⟨w1.heap.size, 0, none⟩) k1 z1)) := (hB2.mono (by omega)).setCell (p := ⟨w.heap.size + 1, 3, none⟩) (by show w.heap.size ≤ w.heap.size + 1; omega) _
            have A2 : Box5 (w2.setCell ⟨w.heap.size + 1, 3, none⟩ (.slice (some ⟨w1.heap.size, 0, none⟩) k1 z1)) w.heap.size (.int .i64 0) (.int .u64 0) (.int .i64 0) (.slice none 0 0) (.slice none 0 0) := A1'.kept (Below.heap_setCell _ _ _ _ (by show w.heap.size ≠ w.heap.size + 1; omega))
            refine bodyPost_ret (results_val rfl _ rfl (fiveV_box A2 _ _ _ _ _)) rfl ?_
            have hr3 : Rv w2 (.slice (some ⟨w1.heap.size, 0, none⟩) k1 z1) (rdRaw s).1.length ((rdRaw s).1.map vB) := by simpa using hr2
            have hnw : ∀ g, (Value.slice (some ⟨w1.heap.size, 0, none⟩) k1 z1).ownBlock = some g → g = w1.heap.size := fun g hg => by cases hg; rfl
            exact vdone hR S0 T1 hb1 ⟨hr3.bstep ((BStep.refl (w.heap.size + 1) w2).set 3 _) (fun e => by have := hnw _ e; omega), Rv.nil _, (fun g hg => by have := hnw _ hg; simp; omega), low_nil _⟩ (fun g hg => by have := hnw _ hg; omega) (new_nil _) _ _ _ _ _
          · have q3 : (k == 3) = false := beq_eq_false_iff_ne.2 h3
            have hq : rdV k s = (⟨k, 0, 0, [], (rdInts s).1⟩, (rdInts s).2) := by simp [rdV, h0, h1, h2', h3, h4]
            rw [hq]
            go_enter Try.func23, Try.ntmps23
            go_wp2_with fail
            refine (rints_any b v bs s (twoV w k) h2 hl).mono ?_
            rintro e w1 ⟨v1, rfl, O1, T1, S1⟩
            obtain ⟨k1, a1, c1, rfl⟩ := own_shape O1
            rw [List.length_map] at O1
            have hz := twoV_size w (k)
            have S0 : BStep b w w1 := (BStep.of_below (twoV_below w (k))).trans S1
            have A1 := A0.bstep S1 (by omega)
            have C1 := C0.bstep S1 (by omega)
            have f1 := C1.fr 4
            have g0 := C1.k0
            have g1 := C1.k1
            have g2 := C1.k2
            have g3 := C1.k3
            have g4 := C1.k4
            have e0 := A1.k0
            have e1 := A1.k1
            have e2 := A1.k2
            have e3 := A1.k3
            have e4 := A1.k4
            have fa0 := A1.fr 0
            have fa1 := A1.fr 1
            have fa2 := A1.fr 2
            have fa3 := A1.fr 3
            have fa4 := A1.fr 4
            go_wp2_with fail
            have hb1 : Below w.heap.size w1 (w1.setCell ⟨w.heap.size + 1, 4, none⟩ (.slice a1 k1 c1)) := (Below.refl _ w1).setCell (p := ⟨w.heap.size + 1, 4, none⟩) (by show w.heap.size ≤ w.heap.size + 1; omega) _
            have A2 : Box5 (w1.setCell ⟨w.heap.size + 1, 4, none⟩ (.slice a1 k1 c1)) w.heap.size (.int .i64 0) (.int .u64 0) (.int .i64 0) (.slice none 0 0) (.slice none 0 0) := A1.kept (Below.heap_setCell _ _ _ _ (by show w.heap.size ≠ w.heap.size + 1; omega))
            refine bodyPost_ret (results_val rfl _ rfl (fiveV_box A2 _ _ _ _ _)) rfl ?_
            exact vdone hR S0 T1 hb1 ⟨Rv.nil _, ((Rv.of_own O1).bstep ((BStep.refl (w.heap.size + 1) w1).set 4 _) (fun e => by have := (O1.lt _ e).1; omega)), low_nil _, (fun g hg => by have := (O1.lt g hg).2; simp; omega)⟩ (new_nil _) (fun g hg => by have := (O1.lt g hg).1; omega) _ _ _ _ _
end Go.Proofs.Ytofgcoapbocneaa
