/- The law ProtoEncodes. -/
import Derived.Test.YtadhghikanjkeaaPrtT
import Derived.Test.YtadhghikanjkeaaPrtP
import Derived.Deep.Cut
import Derived.Deep.RegionHeld3
import Derived.Deep.CutRange
namespace Go.Proofs.Ytadhghikanjkeaa
open Go.RowKit

/-- In a drawing region under a condition on the world: the operation i runs next; it turns nothing but its own slot. -/
theorem wpAnyH_do {P : Program} {ops : Array Oper} {Q : Exit → Act → World → Prop} {md : Region.Mode} {S : World → Prop} (i : Nat) (t : Tmp) {oi : Oper} {v : Value} {fuel : Nat} {listed : Array Bool} {tmps : Array Value} {ds : List Deferred} {w : World}
    (hi : ops[i]? = some oi) (hd : oi.dst = some t)
    (hs : Region.noSelect ops = true) (hf : Region.free md ops listed i = true) (hr : (Region.ready md ops listed).contains i = true)
    (hQ : ∀ c (u v : Array Value) d w, Q (.panic c) ⟨u, d⟩ w → Q (.panic c) ⟨v, d⟩ w) (hw : Region.wanted oi (yielded ops tmps) = true) (hx : ∀ w, S w → (execOp (Act.eval ⟨tmps, ds⟩) oi).run P w = .ok (.value v) w) (hS : S w)
    (h : wpAnyH P md ops Q S fuel (listed.setIfInBounds i true) ⟨tmps.setIfInBounds t v, ds⟩ w) : wpAnyH P md ops Q S (fuel + 1) listed ⟨tmps, ds⟩ w := by
  refine wpAnyH_take hi hs hf hr (fun c a w h => by rw [hd] at h; exact hQ c _ _ _ w h) (.inl ⟨hw, hx⟩) hS ?_
  rw [hd]
  exact h
/-- The operation i alone may come up. -/
theorem wpAnyH_one {P : Program} {ops : Array Oper} {Q : Exit → Act → World → Prop} {md : Region.Mode} {S : World → Prop} (i : Nat) {oi : Oper} {fuel : Nat} {listed : Array Bool} {a : Act} {w : World}
    (hi : ops[i]? = some oi) (hr : Region.ready md ops listed = [i]) (hw : Region.wanted oi (yielded ops a.tmps) = true)
    (h : ∀ K' : Act → World → Prop, (∀ a w, S w → wpAnyH P md ops Q S fuel (listed.setIfInBounds i true) a w → K' a w) → Oper.wp P oi a w K' Q) : wpAnyH P md ops Q S (fuel + 1) listed a w :=
  wpAnyH_ready hr (by simp) (AllReadyH.cons hi (fun K' hK => by rw [if_pos hw]; exact h K' (fun a w hS h => hK.out a w hS (fun _ => h))) AllReadyH.nil)

theorem wpAnyH_two {P : Program} {ops : Array Oper} {Q : Exit → Act → World → Prop} {md : Region.Mode} {S : World → Prop} (i j : Nat) {oi oj : Oper} {fuel : Nat} {listed : Array Bool} {a : Act} {w : World}
    (hi : ops[i]? = some oi) (hj : ops[j]? = some oj) (hr : Region.ready md ops listed = [i, j]) (hwi : Region.wanted oi (yielded ops a.tmps) = true) (hwj : Region.wanted oj (yielded ops a.tmps) = true)
    (h1 : ∀ K' : Act → World → Prop, (∀ a w, S w → wpAnyH P md ops Q S fuel (listed.setIfInBounds i true) a w → K' a w) → Oper.wp P oi a w K' Q)
    (h2 : ∀ K' : Act → World → Prop, (∀ a w, S w → wpAnyH P md ops Q S fuel (listed.setIfInBounds j true) a w → K' a w) → Oper.wp P oj a w K' Q) : wpAnyH P md ops Q S (fuel + 1) listed a w :=
  wpAnyH_ready hr (by simp) (AllReadyH.cons hi (fun K' hK => by rw [if_pos hwi]; exact h1 K' (fun a w hS h => hK.out a w hS (fun _ => h)))
    (AllReadyH.cons hj (fun K' hK => by rw [if_pos hwj]; exact h2 K' (fun a w hS h => hK.out a w hS (fun _ => h))) AllReadyH.nil))
/-- append as one operation. -/
theorem opApp {P : Program} {w : World} {o : Oper} {a : Act} {K : Act → World → Prop} {Q : Exit → Act → World → Prop} (hgd : o.guard = none) (s x : Operand) {t e : TypeId} {z : Value} {size bytes : Nat}
    (ho : o.op = .call { callee := .builtin .append, args := #[s, x], argTypes := #[t, t] })
    (E : Elem P t e z size bytes) (base : Nat)
    (v : Value) (n : Nat) (xs : List Value) (hs : a.eval s = v) (hown : w.ownsRow base e size v n xs)
    (y : Value) (m : Nat) (news : List Value) (hx : a.eval x = y) (hb : Rv w y m news) (hl : news.length = m * size) (h1 : ∀ u ∈ news, u.oneCell' = true)
    (hbytes : (n + m) * bytes ≤ 140737488355328) (hbase : base ≤ w.heap.size)
    (h : ∀ v' w', w'.ownsRow base e size v' (n + m) (xs ++ news) → w.grownBy w' v.ownBlock → SameOrNew w v v' → K (a.put o.dst v') w') : Oper.wp P o a w K Q := by
  have := step_appN (R := True) (ops := #[]) hgd s x ho E base v n xs hs hown y m news hx hb hl h1 hbytes hbase (Q := Q) h
  have hw : Region.wanted o (yielded #[] a.tmps) = true := by simp [Region.wanted, hgd]
  rwa [if_pos hw] at this
/-- Where region 12 stands: the row under way, and the zero message that was made early. -/
structure QSt (ub W : World) (v : Value) (bs : List UInt8) (f : Option Nat) : Prop where
  bel : Below ub.heap.size ub W
  own : W.ownsRow ub.heap.size 5 1 v bs.length (bs.map vB)
  z : ∀ h, f = some h → ub.heap.size ≤ h ∧ W.heap[h]? = some (.cells #[.int .i64 0, .int .i64 0, .int .i64 0, .int .i64 0, .slice none 0 0, .slice none 0 0] 33 (0, 0)) ∧ v.ownBlock ≠ some h
section
variable {ub W W' : World} {v v' : Value} {bs : List UInt8} {f : Option Nat}
theorem QSt.start (ub : World) : QSt ub ub.drew (.slice none 0 0) [] none := ⟨(Below.refl _ _).drew, World.ownsRow_nil _ _ _ _, fun h e => by cases e⟩
theorem QSt.zlt (E : QSt ub W v bs f) : ∀ h, f = some h → h < W.heap.size := fun h e => (Array.getElem?_eq_some_iff.1 (E.z h e).2.1).1
theorem QSt.zero (E : QSt ub W v bs f) (h : Nat) (e : f = some h) : M6 W h 0 0 0 0 (.slice none 0 0) (.slice none 0 0) := ⟨(E.z h e).2.1⟩
theorem QSt.later (E : QSt ub W v bs f) (B : Below W.heap.size W W') : QSt ub W' v bs f :=
  ⟨E.bel.trans (B.mono E.bel.size), own_below E.own B, fun h e => ⟨(E.z h e).1, (B.block h (E.zlt h e)).trans (E.z h e).2.1, (E.z h e).2.2⟩⟩
theorem QSt.empty (E : QSt ub W v bs f) : QSt ub (W.alloc (.cells #[] 5)) (.slice (some ⟨W.heap.size, 0, none⟩) 0 0) [] f :=
  ⟨E.bel.alloc E.bel.size _, own_base (own_empty W _) E.bel.size, fun h e => ⟨(E.z h e).1, (Below.heap_alloc _ _ _ (E.zlt h e)).trans (E.z h e).2.1, fun he => by
    have := E.zlt h e
    have e2 : W.heap.size = h := by simpa [Value.ownBlock] using he
    omega⟩⟩
theorem QSt.allocZ (E : QSt ub W v bs none) : QSt ub (W.alloc (.cells #[.int .i64 0, .int .i64 0, .int .i64 0, .int .i64 0, .slice none 0 0, .slice none 0 0] 33)) v bs (some W.heap.size) :=
  ⟨E.bel.alloc E.bel.size _, E.own.alloc _, fun h e => by
    cases e
    exact ⟨E.bel.size, World.alloc_heap_new W _, fun he => by have := (E.own.lt _ he).2; omega⟩⟩
theorem QSt.app {t : List UInt8} {n : Nat} (E : QSt ub W v bs f) (ho : W'.ownsRow ub.heap.size 5 1 v' (bs.length + n) (bs.map vB ++ t.map vB)) (hn : t.length = n) (hg : W.grownBy W' v.ownBlock) (hs : SameOrNew W v v') : QSt ub W' v' (bs ++ t) f :=
  ⟨E.bel.grown hg E.bel.size (fun g hg' => (E.own.lt g hg').1), by rw [List.length_append, List.map_append, hn]; exact ho, fun h e => ⟨(E.z h e).1, (hg.block h (E.zlt h e) (fun e2 => (E.z h e).2.2 e2.symm)).trans (E.z h e).2.1, fun he => by
    rcases hs with hs | hs
    · rw [hs] at he; exact (E.z h e).2.2 he
    · have := hs h he; have := E.zlt h e; omega⟩⟩
end

/-- The six cells of a message that lies at an offset of a block. -/
structure MCell (W : World) (H o : Nat) (m : Msg) (ab af : Option Addr) (cb cf : Nat) : Prop where
  k0 : W.cell? ⟨H, o, none⟩ = some (.int .i64 m.k)
  k1 : W.cell? ⟨H, o + 1, none⟩ = some (.int .i64 m.c)
  k2 : W.cell? ⟨H, o + 2, none⟩ = some (.int .i64 m.v)
  k3 : W.cell? ⟨H, o + 3, none⟩ = some (.int .i64 m.o)
  k4 : W.cell? ⟨H, o + 4, none⟩ = some (.slice ab m.body.length cb)
  k5 : W.cell? ⟨H, o + 5, none⟩ = some (.slice af m.fnd.length cf)
theorem cellBelow {W W' : World} {B : Nat} {p : Addr} {u : Value} (h : W.cell? p = some u) (hB : Below B W W') (hp : p.block < B) : W'.cell? p = some u := (World.cell?_of_block (hB.block _ hp)).trans h
theorem MCell.later {W W' : World} {H o : Nat} {m : Msg} {ab af : Option Addr} {cb cf : Nat} (h : MCell W H o m ab af cb cf) (hB : Below W.heap.size W W') : MCell W' H o m ab af cb cf :=
  have hl := World.block_lt_of_cell? W _ h.k0
  ⟨cellBelow h.k0 hB hl, cellBelow h.k1 hB hl, cellBelow h.k2 hB hl, cellBelow h.k3 hB hl, cellBelow h.k4 hB hl, cellBelow h.k5 hB hl⟩

theorem MCell.one {W : World} {H : Nat} {T : TypeId} {fr : Nat × Nat} {m : Msg} {ab af : Option Addr} {cb cf : Nat} (h : W.heap[H]? = some (.cells #[.int .i64 m.k, .int .i64 m.c, .int .i64 m.v, .int .i64 m.o, .slice ab m.body.length cb, .slice af m.fnd.length cf] T fr)) : MCell W H 0 m ab af cb cf := by
  constructor <;> simp [World.cell?, h]
theorem MCell.two {W : World} {H : Nat} {T : TypeId} {fr : Nat × Nat} {m m' : Msg} {ab af eb ef : Option Addr} {cb cf db df : Nat}
    (h : W.heap[H]? = some (.cells #[.int .i64 m.k, .int .i64 m.c, .int .i64 m.v, .int .i64 m.o, .slice ab m.body.length cb, .slice af m.fnd.length cf, .int .i64 m'.k, .int .i64 m'.c, .int .i64 m'.v, .int .i64 m'.o, .slice eb m'.body.length db, .slice ef m'.fnd.length df] T fr)) : MCell W H 0 m ab af cb cf ∧ MCell W H 6 m' eb ef db df := by
  constructor <;> constructor <;> simp [World.cell?, h]

set_option maxRecDepth 20000 in
set_option linter.unusedSimpArgs false in
set_option maxHeartbeats 8000000 in
theorem law_ProtoEncodes (u r : Value) (l : List Int) (rs : List UInt8) (how by' : Int) (w : World) (hu : Rv w u l.length (l.map (Value.int .i64))) (hr : Rv w r rs.length (rs.map vB))
    (hl : I64 l) (hh : -9223372036854775808 ≤ how ∧ how ≤ 9223372036854775807) (hby : -9223372036854775808 ≤ by' ∧ by' ≤ 9223372036854775807) :
    Calls Try.prog 3 #[u, .int .i64 how, .int .i64 by', r] w (RetT w) := by
  obtain ⟨al, cl, rfl, _, _⟩ := hu.opened
  obtain ⟨ar, cr, rfl, hrc, _⟩ := hr.opened
  have hmade := made_any al cl l 0 w hu hl (by omega)
  obtain ⟨m, hm⟩ : ∃ m, madeM l 0 = m := ⟨_, rfl⟩
  rw [hm] at hmade
  have HM := Lib.hid hmade
  have HH := Lib.hid hh
  have HBY := Lib.hid hby
  clear hm hmade hh hby
  go_enter Try.func3, Try.ntmps3
  go_wp2_with fail
  refine HM.out.mono ?_
  rintro e w1 ⟨x, rfl, ⟨ab, af, cb, cf, rfl, M1, _, _⟩, B1⟩
  unfold msgV
  go_wp2_with fail
  have C0 : MCell (w1.alloc (.cells #[.int .i64 m.k, .int .i64 m.c, .int .i64 m.v, .int .i64 m.o, .slice ab m.body.length cb, .slice af m.fnd.length cf] 27)) w1.heap.size 0 m ab af cb cf := MCell.one (World.alloc_heap_new w1 _)
  have B2 : Below w.heap.size w (w1.alloc (.cells #[.int .i64 m.k, .int .i64 m.c, .int .i64 m.v, .int .i64 m.o, .slice ab m.body.length cb, .slice af m.fnd.length cf] 27)) := B1.alloc B1.size _
  have M2 := M1.below ((Below.refl _ _).alloc (Nat.le_refl _) (.cells #[.int .i64 m.k, .int .i64 m.c, .int .i64 m.v, .int .i64 m.o, .slice ab m.body.length cb, .slice af m.fnd.length cf] 27))
  have Cd := C0.later (Below.refl _ _).drew
  have hsp := spoilt_any m ab af cb cf how by' (w1.alloc (.cells #[.int .i64 m.k, .int .i64 m.c, .int .i64 m.v, .int .i64 m.o, .slice ab m.body.length cb, .slice af m.fnd.length cf] 27)).drew (M2.below (Below.refl _ _).drew) HH.out HBY.out
  unfold msgV at hsp
  have HSP := Lib.hid hsp
  have k0 := Cd.k0
  have k1 := Cd.k1
  have k2 := Cd.k2
  have k3 := Cd.k3
  have k4 := Cd.k4
  have k5 := Cd.k5
  rw [Nat.zero_add] at k1 k2 k3 k4 k5
  clear hsp
  go_region_held3 (fun W' => W'.cell? ⟨w1.heap.size, 0, none⟩ = some (.int .i64 m.k) ∧ W'.cell? ⟨w1.heap.size, 1, none⟩ = some (.int .i64 m.c) ∧ W'.cell? ⟨w1.heap.size, 2, none⟩ = some (.int .i64 m.v) ∧ W'.cell? ⟨w1.heap.size, 3, none⟩ = some (.int .i64 m.o) ∧ W'.cell? ⟨w1.heap.size, 4, none⟩ = some (.slice ab m.body.length cb) ∧ W'.cell? ⟨w1.heap.size, 5, none⟩ = some (.slice af m.fnd.length cf))
    (first
      | exact ⟨k0, k1, k2, k3, k4, k5⟩
      | exact ⟨cellBelow k0 B3 (by simp), cellBelow k1 B3 (by simp), cellBelow k2 B3 (by simp), cellBelow k3 B3 (by simp), cellBelow k4 B3 (by simp), cellBelow k5 B3 (by simp)⟩
      | exact ⟨cellBelow k0 (B3.alloc B3.size _) (by simp), cellBelow k1 (B3.alloc B3.size _) (by simp), cellBelow k2 (B3.alloc B3.size _) (by simp), cellBelow k3 (B3.alloc B3.size _) (by simp), cellBelow k4 (B3.alloc B3.size _) (by simp), cellBelow k5 (B3.alloc B3.size _) (by simp)⟩)
    ((go_at_call 9; refine HSP.out.mono ?_; rintro e w3 ⟨m', eb, ef, db, df, rfl, M3, B3⟩; unfold msgV))
  have A3 : Below w.heap.size w w3 := bel B2.drew B3
  have A4 : Below w.heap.size w (w3.alloc (.cells #[.int .i64 m.k, .int .i64 m.c, .int .i64 m.v, .int .i64 m.o, .slice ab m.body.length cb, .slice af m.fnd.length cf, .int .i64 m'.k, .int .i64 m'.c, .int .i64 m'.v, .int .i64 m'.o, .slice eb m'.body.length db, .slice ef m'.fnd.length df] 27)) := A3.alloc A3.size _
  obtain ⟨D0, D6⟩ := MCell.two (World.alloc_heap_new w3 (.cells #[.int .i64 m.k, .int .i64 m.c, .int .i64 m.v, .int .i64 m.o, .slice ab m.body.length cb, .slice af m.fnd.length cf, .int .i64 m'.k, .int .i64 m'.c, .int .i64 m'.v, .int .i64 m'.o, .slice eb m'.body.length db, .slice ef m'.fnd.length df] 27))
  have N1 := ((M2.below (Below.refl _ _).drew).below B3).below ((Below.refl _ _).alloc (Nat.le_refl _) (.cells #[.int .i64 m.k, .int .i64 m.c, .int .i64 m.v, .int .i64 m.o, .slice ab m.body.length cb, .slice af m.fnd.length cf, .int .i64 m'.k, .int .i64 m'.c, .int .i64 m'.v, .int .i64 m'.o, .slice eb m'.body.length db, .slice ef m'.fnd.length df] 27))
  have N2 := M3.below ((Below.refl _ _).alloc (Nat.le_refl _) (.cells #[.int .i64 m.k, .int .i64 m.c, .int .i64 m.v, .int .i64 m.o, .slice ab m.body.length cb, .slice af m.fnd.length cf, .int .i64 m'.k, .int .i64 m'.c, .int .i64 m'.v, .int .i64 m'.o, .slice eb m'.body.length db, .slice ef m'.fnd.length df] 27))
  have RS := hr.below A4
  clear M1 M2 M3 B1 B2 B3 C0 Cd k0 k1 k2 k3 k4 k5 HSP HM A3
  go_wp2_with fail
  obtain ⟨W0, hW0⟩ : ∃ W0, w3.alloc (.cells #[.int .i64 m.k, .int .i64 m.c, .int .i64 m.v, .int .i64 m.o, .slice ab m.body.length cb, .slice af m.fnd.length cf, .int .i64 m'.k, .int .i64 m'.c, .int .i64 m'.v, .int .i64 m'.o, .slice eb m'.body.length db, .slice ef m'.fnd.length df] 27) = W0 := ⟨_, rfl⟩
  rw [hW0] at A4 D0 D6 N1 N2 RS
  obtain ⟨H, hH⟩ : ∃ H, w3.heap.size = H := ⟨_, rfl⟩
  rw [hH] at D0 D6
  have E : ∀ i, i < 2 → ∃ mm xb xf yb yf, MCell W0 H (i * 6) mm xb xf yb yf ∧ Cells6 W0 mm xb xf yb yf := by
    intro i hi
    obtain rfl | rfl : i = 0 ∨ i = 1 := by omega
    · exact ⟨m, ab, af, cb, cf, D0, N1⟩
    · exact ⟨m', eb, ef, db, df, D6, N2⟩
  have HE := Lib.hid E
  clear E D0 D6 N1 N2
  rw [hH, hW0]
  clear hW0 hH
  go_loopw [11] (fun iv wr => ∃ i : Nat, iv = .int .i64 (i : Int) ∧ i ≤ 2 ∧ Below W0.heap.size W0 wr) (fun iv _ => 2 - (intOf iv).toNat)
  case atStart => exact ⟨0, by first | rfl | trivial, by omega, Below.refl _ _⟩
  case round =>
    obtain ⟨i, rfl, hi, B⟩ := hrel
    by_cases hlt : i < 2
    · obtain ⟨mm, xb, xf, yb, yf, DC, NC⟩ := HE.out i hlt
      have DB := DC.later B
      have hlti : (i : Int) < 2 := by omega
      have k0 := DB.k0
      have k1 := DB.k1
      have k2 := DB.k2
      have k3 := DB.k3
      have k4 := DB.k4
      have k5 := DB.k5
      have N := NC.below B
      have hre := real_any mm xb xf yb yf wr
      unfold msgV at hre
      have HRE := Lib.hid hre
      clear hre
      go_wp2_with fail
      refine HRE.out.mono ?_
      rintro e u1 ⟨rfl, B1⟩
      have hen := encode_any mm xb xf yb yf u1 (N.below B1)
      unfold msgV at hen
      have HEN := Lib.hid hen
      clear hen HRE k0 k1 k2 k3 k4 k5
      go_wp2_with fail
      refine HEN.out.mono ?_
      rintro e u2 ⟨B2, hpost⟩
      have C2 := bel (bel B B1) B2
      have D2 := DC.later C2
      have k0 := D2.k0
      have k1 := D2.k1
      have k2 := D2.k2
      have k3 := D2.k3
      have k4 := D2.k4
      have k5 := D2.k5
      have N2 := NC.below C2
      have hvr := validR_any mm xb xf yb yf u2 N2
      unfold msgV at hvr
      have HVR := Lib.hid hvr
      clear hvr HEN
      cases hv : validM mm with
      | false =>
        rw [if_neg (by rw [hv]; exact Bool.false_ne_true)] at hpost
        rw [hv] at HVR
        subst hpost
        clear hv
        go_wp2_with fail
        refine HVR.out.mono ?_
        rintro e u3 ⟨rfl, B3⟩
        go_wp2_with fail
        go_roundw
        case rel => exact ⟨i + 1, by go_num, by omega, bel C2 B3⟩
        case measure => simp [intOf]; omega
      | true =>
        rw [if_pos hv] at hpost
        obtain ⟨v, rfl, hown⟩ := hpost
        rw [hv] at HVR
        have hcl := core_le hv
        have HVV := Lib.hid hv
        clear hv
        have rb := Rv.of_own hown
        obtain ⟨a2, c2, rfl, _, _⟩ := rb.opened
        clear hown
        obtain ⟨fr, hfr⟩ : ∃ fr, framedP (coreP mm) = fr := ⟨_, rfl⟩
        rw [hfr] at rb ⊢
        have HFR := Lib.hid hfr
        have hfl : fr.length ≤ 200000 := by rw [← hfr, framedP_len]; omega
        have hfl0 : 0 < fr.length := by rw [← hfr, framedP_len]; omega
        obtain ⟨g2, o2, rfl, _⟩ := rb.rd.cell (show (fr.map vB)[0]? = some (vB fr[0]) by rw [List.getElem?_map, List.getElem?_eq_getElem (by omega)]; rfl)
        clear hfr hcl
        go_wp2_with fail
        refine HVR.out.mono ?_
        rintro e u3 ⟨rfl, B3⟩
        have C3 := bel C2 B3
        have rb3 := rb.below B3
        clear rb HVR k0 k1 k2 k3 k4 k5 N N2 B1 B2 D2 DB
        go_upto_region 10 with fail
        go_cut [64] from 51 to 64 (fun sv wx => sv = .bool false ∧ Below u3.heap.size u3 wx)
        case first =>
          have DD := (DC.later C3).later (Below.refl _ _).drew
          have rb0 := rb3.below (Below.refl u3.heap.size u3).drew
          have ND := (NC.below C3).below (Below.refl u3.heap.size u3).drew
          have hco := core_any mm xb xf yb yf u3.drew ND HVV.out
          unfold msgV at hco
          have HCO := Lib.hid hco
          have hcl := core_le HVV.out
          clear hco
          refine wp_region_held_drew (S := fun W' => Rv W' (.slice (some ⟨g2, o2, none⟩) fr.length c2) fr.length (fr.map vB) ∧ MCell W' H (i * 6) mm xb xf yb yf) (by kernel_rfl) ⟨rb0, DD⟩ (fun _ => ?_)
          refine wpAnyH_do 0 51 rfl rfl (by kernel_rfl) (by kernel_rfl) (by kernel_rfl) (fun _ _ _ _ _ h => h) (by kernel_rfl) (fun W hS => by go_simp; try with_reducible rfl) ⟨rb0, DD⟩ ?_
          simp only [List.setIfInBounds_toArray, List.set_cons_succ, List.set_cons_zero]
          refine wpAnyH_do 1 52 rfl rfl (by kernel_rfl) (by kernel_rfl) (by kernel_rfl) (fun _ _ _ _ _ h => h) (by kernel_rfl) (fun W hS => by go_simp; try with_reducible rfl) ⟨rb0, DD⟩ ?_
          simp only [List.setIfInBounds_toArray, List.set_cons_succ, List.set_cons_zero]
          refine wpAnyH_do 2 53 rfl rfl (by kernel_rfl) (by kernel_rfl) (by kernel_rfl) (fun _ _ _ _ _ h => h) (by kernel_rfl) (fun W hS => by go_simp; try with_reducible rfl) ⟨rb0, DD⟩ ?_
          simp only [List.setIfInBounds_toArray, List.set_cons_succ, List.set_cons_zero]
          refine wpAnyH_do 3 54 rfl rfl (by kernel_rfl) (by kernel_rfl) (by kernel_rfl) (fun _ _ _ _ _ h => h) (by kernel_rfl) (fun W hS => by go_simp; try with_reducible rfl) ⟨rb0, DD⟩ ?_
          simp only [List.setIfInBounds_toArray, List.set_cons_succ, List.set_cons_zero]
          refine wpAnyH_do (v := .string ⟨fr.toArray⟩) 4 55 rfl rfl (by kernel_rfl) (by kernel_rfl) (by kernel_rfl) (fun _ _ _ _ _ h => h) (by kernel_rfl) (fun W hS => by have hcv := run_tostring _ _ _ _ Try.underlying23 Try.underlying5 Try.underlying9 _ fr hS.1; go_simp) ⟨rb0, DD⟩ ?_
          simp only [List.setIfInBounds_toArray, List.set_cons_succ, List.set_cons_zero]
          refine wpAnyH_do 5 56 rfl rfl (by kernel_rfl) (by kernel_rfl) (by kernel_rfl) (fun _ _ _ _ _ h => h) (by kernel_rfl) (fun W hS => by go_simp; try with_reducible rfl) ⟨rb0, DD⟩ ?_
          simp only [List.setIfInBounds_toArray, List.set_cons_succ, List.set_cons_zero]
          refine wpAnyH_do 6 57 rfl rfl (by kernel_rfl) (by kernel_rfl) (by kernel_rfl) (fun _ _ _ _ _ h => h) (by kernel_rfl) (fun W hS => by go_simp; try with_reducible rfl) ⟨rb0, DD⟩ ?_
          simp only [List.setIfInBounds_toArray, List.set_cons_succ, List.set_cons_zero]
          refine wpAnyH_do 7 58 rfl rfl (by kernel_rfl) (by kernel_rfl) (by kernel_rfl) (fun _ _ _ _ _ h => h) (by kernel_rfl) (fun W hS => by go_simp; try with_reducible rfl) ⟨rb0, DD⟩ ?_
          simp only [List.setIfInBounds_toArray, List.set_cons_succ, List.set_cons_zero]
          refine wpAnyH_do (v := .agg #[.int .i64 mm.k, .int .i64 mm.c, .int .i64 mm.v, .int .i64 mm.o, .slice xb mm.body.length yb, .slice xf mm.fnd.length yf]) 8 59 rfl rfl (by kernel_rfl) (by kernel_rfl) (by kernel_rfl) (fun _ _ _ _ _ h => h) (by kernel_rfl) (fun W hS => by have k0 := hS.2.k0; have k1 := hS.2.k1; have k2 := hS.2.k2; have k3 := hS.2.k3; have k4 := hS.2.k4; have k5 := hS.2.k5; go_simp) ⟨rb0, DD⟩ ?_
          simp only [List.setIfInBounds_toArray, List.set_cons_succ, List.set_cons_zero]
          refine wpAnyH_one 9 rfl (by kernel_rfl) (by kernel_rfl) (fun K hK => ?_)
          go_simp
          refine HCO.out.mono ?_
          rintro e u4 ⟨v4, rfl, M4⟩
          have rb4 := rb0.below M4.2
          have D4 := DD.later M4.2
          have r4 := M4.rvB
          refine hK _ _ ⟨rb4, D4⟩ ?_
          clear hK
          try simp only [Act.put, List.setIfInBounds_toArray, List.set_cons_zero, List.set_cons_succ]
          refine wpAnyH_one 10 rfl (by kernel_rfl) (by kernel_rfl) (fun K hK => ?_)
          go_simp
          refine (framed_any v4 (coreP mm) _ r4 (by omega)).mono ?_
          rintro e u5 ⟨v5, rfl, M5⟩
          rw [HFR.out] at M5
          have rb5 := rb4.below M5.2
          have D5 := D4.later M5.2
          have r5 := M5.rvB
          refine hK _ _ ⟨rb5, D5⟩ ?_
          clear hK
          try simp only [Act.put, List.setIfInBounds_toArray, List.set_cons_zero, List.set_cons_succ]
          have hc6 := run_tostring _ _ _ _ Try.underlying23 Try.underlying5 Try.underlying9 _ fr r5
          refine wpAnyH_one 11 rfl (by kernel_rfl) (by kernel_rfl) (fun K hK => ?_)
          go_simp
          refine hK _ _ ⟨rb5, D5⟩ ?_
          clear hK
          try simp only [Act.put, List.setIfInBounds_toArray, List.set_cons_zero, List.set_cons_succ]
          refine wpAnyH_do (v := .bool false) 12 63 rfl rfl (by kernel_rfl) (by kernel_rfl) (by kernel_rfl) (fun _ _ _ _ _ h => h) (by kernel_rfl) (fun W hS => by go_simp) ⟨rb5, D5⟩ ?_
          simp only [List.setIfInBounds_toArray, List.set_cons_succ, List.set_cons_zero]
          refine wpAnyH_do (v := .bool false) 13 64 rfl rfl (by kernel_rfl) (by kernel_rfl) (by kernel_rfl) (fun _ _ _ _ _ h => h) (by kernel_rfl) (fun W hS => by go_simp) ⟨rb5, D5⟩ ?_
          simp only [List.setIfInBounds_toArray, List.set_cons_succ, List.set_cons_zero]
          refine wpAnyH_done (by kernel_rfl) ?_ _
          go_wp2_with fail
          go_meet
          exact ⟨rfl, bel (bel (Below.refl u3.heap.size u3).drew M4.2) M5.2⟩
        case rest =>
        rename World => ub
        obtain ⟨rfl, Bb⟩ := hcut
        have C4 := bel C3 Bb
        have rb4 := rb3.below Bb
        clear C3 Bb rb3
        obtain ⟨t, ht⟩ : ∃ t, rs.take 40 = t := ⟨_, rfl⟩
        have hpl := core_le HVV.out
        have hdp : decP ([] ++ fr ++ t) = (mm, fr.length, 0) := by
          rw [List.nil_append, ← HFR.out, decP_framed _ _ (by omega), decC_core mm HVV.out, framedP_len]
        have HDP := Lib.hid hdp
        have ht40 : t.length ≤ 40 := by rw [← ht, List.length_take]; omega
        have RT : Rv ub (.slice ar t.length cr) t.length (t.map vB) := by
          obtain ⟨_, _, e1, _, e2⟩ := (RS.below C4).firsts t.length (by rw [← ht, List.length_take]; omega)
          cases e1
          have h := e2 _ rfl
          have e3 : (rs.map vB).take t.length = t.map vB := by
            rw [← ht, List.map_take, List.length_take]
            by_cases h40 : 40 ≤ rs.length
            · rw [Nat.min_eq_left h40]
            · rw [Nat.min_eq_right (by omega), List.take_of_length_le (by simp), List.take_of_length_le (by simp; omega)]
          rwa [e3] at h
        have htc : (t.length : Int) ≤ (cr : Int) := by
          have : t.length ≤ rs.length := by rw [← ht, List.length_take]; omega
          omega
        have hmin : ((rs.length : Int) ≤ 40 ∧ t.length = rs.length) ∨ (¬ (rs.length : Int) ≤ 40 ∧ (40 : Int) < (rs.length : Int) ∧ t.length = 40) := by
          rw [← ht, List.length_take]
          omega
        have HMIN := Lib.hid hmin
        clear hdp ht hmin hpl
        go_upto_region 12 with fail
        go_cut [14, 15, 16] from 65 to 78 (fun pv nv ev wx => ∃ (h : Nat) (z1 z2 : Option Addr) (z3 z4 : Nat), pv = .pointer (some ⟨h, 0, none⟩) ∧ nv = .int .i64 (fr.length : Int) ∧ ev = .int .i64 0 ∧ wx.heap[h]? = some (.cells #[.int .i64 mm.k, .int .i64 mm.c, .int .i64 mm.v, .int .i64 mm.o, .slice z1 mm.body.length z3, .slice z2 mm.fnd.length z4] 33 (0, 0)) ∧ Cells6 wx mm z1 z2 z3 z4 ∧ Below ub.heap.size ub wx)
        case first =>
          have E := QSt.start ub
          refine wp_region_held_drew (S := fun W' => Below ub.heap.size ub W') (by kernel_rfl) E.bel (fun _ => ?_)
          generalize hgw : ub.drew = x0 at E ⊢
          clear hgw
          refine wpAnyH_do 1 67 rfl rfl (by kernel_rfl) (by kernel_rfl) (by kernel_rfl) (fun _ _ _ _ _ h => h) (by kernel_rfl) (fun W hS => by go_simp; try with_reducible rfl) E.bel ?_
          simp only [List.setIfInBounds_toArray, List.set_cons_succ, List.set_cons_zero]
          refine wpAnyH_do 3 69 rfl rfl (by kernel_rfl) (by kernel_rfl) (by kernel_rfl) (fun _ _ _ _ _ h => h) (by kernel_rfl) (fun W hS => by go_simp; try with_reducible rfl) E.bel ?_
          simp only [List.setIfInBounds_toArray, List.set_cons_succ, List.set_cons_zero]
          refine wpAnyH_do 4 70 rfl rfl (by kernel_rfl) (by kernel_rfl) (by kernel_rfl) (fun _ _ _ _ _ h => h) (by kernel_rfl) (fun W hS => by go_simp; try with_reducible rfl) E.bel ?_
          simp only [List.setIfInBounds_toArray, List.set_cons_succ, List.set_cons_zero]
          refine wpAnyH_do 5 71 rfl rfl (by kernel_rfl) (by kernel_rfl) (by kernel_rfl) (fun _ _ _ _ _ h => h) (by kernel_rfl) (fun W hS => by go_simp; try with_reducible rfl) E.bel ?_
          simp only [List.setIfInBounds_toArray, List.set_cons_succ, List.set_cons_zero]
          refine wpAnyH_do (v := .int .i64 (t.length : Int)) 6 72 rfl rfl (by kernel_rfl) (by kernel_rfl) (by kernel_rfl) (fun _ _ _ _ _ h => h) (by kernel_rfl) (fun W hS => HMIN.out.elim (fun h => by (have h42 : ¬ (40 : Int) < (rs.length : Int) := by have := h.1; omega); rw [h.2]; go_simp) (fun h => by (have h41 := h.2.1); (have h40 := h.1); rw [h.2.2]; go_simp)) E.bel ?_
          simp only [List.setIfInBounds_toArray, List.set_cons_succ, List.set_cons_zero]
          refine wpAnyH_do (v := .slice ar t.length cr) 7 73 rfl rfl (by kernel_rfl) (by kernel_rfl) (by kernel_rfl) (fun _ _ _ _ _ h => h) (by kernel_rfl) (fun W hS => by go_simp; try with_reducible rfl) E.bel ?_
          simp only [List.setIfInBounds_toArray, List.set_cons_succ, List.set_cons_zero]
          refine wpAnyH_two 0 14 rfl rfl (by kernel_rfl) (by kernel_rfl) (by kernel_rfl) (fun K hK => ?_) (fun K hK => ?_)
          · skip
            go_simp
            have E := E.empty
            refine hK _ _ E.bel ?_
            clear hK
            try simp only [Act.put, List.setIfInBounds_toArray, List.set_cons_zero, List.set_cons_succ]
            generalize hgw : x0.alloc (.cells #[] 5) = x1 at E ⊢
            clear hgw
            refine wpAnyH_two 2 14 rfl rfl (by kernel_rfl) (by kernel_rfl) (by kernel_rfl) (fun K hK => ?_) (fun K hK => ?_)
            · skip
              refine opApp rfl _ _ rfl Try.elB ub.heap.size _ _ _ rfl E.own _ fr.length _ rfl (rb4.below E.bel) (by simp) (ones_B _) (by simp; omega) E.bel.size ?_
              intro va x2 O1 g1 s1
              have E := E.app O1 rfl g1 s1
              refine hK _ _ E.bel ?_
              clear hK O1 g1 s1
              try simp only [Act.put, List.setIfInBounds_toArray, List.set_cons_zero, List.set_cons_succ]
              refine wpAnyH_two 8 14 rfl rfl (by kernel_rfl) (by kernel_rfl) (by kernel_rfl) (fun K hK => ?_) (fun K hK => ?_)
              · skip
                refine opApp rfl _ _ rfl Try.elB ub.heap.size _ _ _ rfl E.own _ t.length _ rfl (RT.below E.bel) (by simp) (ones_B _) (by simp only [List.length_append, List.length_nil]; omega) E.bel.size ?_
                intro va x3 O1 g1 s1
                have E := E.app O1 rfl g1 s1
                clear O1 g1 s1
                obtain ⟨bt, hbt⟩ : ∃ bt, ([] ++ fr ++ t : List UInt8) = bt := ⟨_, rfl⟩
                have hbl : bt.length ≤ 100000000 := by rw [← hbt]; simp only [List.length_append, List.length_nil]; omega
                have HDP2 := HDP.out
                rw [hbt] at E HDP2
                have HDP2 := Lib.hid HDP2
                clear hbt
                obtain ⟨a8, c8, rfl, _, _⟩ := (Rv.of_own E.own).opened
                refine hK _ _ E.bel ?_
                clear hK
                try simp only [Act.put, List.setIfInBounds_toArray, List.set_cons_zero, List.set_cons_succ]
                refine wpAnyH_two 9 14 rfl rfl (by kernel_rfl) (by kernel_rfl) (by kernel_rfl) (fun K hK => ?_) (fun K hK => ?_)
                · skip
                  have hde := decode_any a8 c8 bt _ (Rv.of_own E.own) hbl
                  unfold DePost at hde
                  rw [HDP2.out] at hde
                  have HDE := Lib.hid hde
                  clear hde
                  go_simp
                  refine HDE.out.mono ?_
                  rintro e x4 ⟨x, rfl, ⟨z1, z2, z3, z4, rfl, M9, l1, l2⟩, B9⟩
                  have hzl := E.zlt
                  have E := E.later B9
                  unfold msgV
                  dsimp only
                  refine hK _ _ E.bel ?_
                  clear hK HDE
                  try simp only [Act.put, List.setIfInBounds_toArray, List.set_cons_zero, List.set_cons_succ]
                  refine wpAnyH_do 10 65 rfl rfl (by kernel_rfl) (by kernel_rfl) (by kernel_rfl) (fun _ _ _ _ _ h => h) (by kernel_rfl) (fun W hS => by go_simp; try with_reducible rfl) E.bel ?_
                  simp only [List.setIfInBounds_toArray, List.set_cons_succ, List.set_cons_zero]
                  refine wpAnyH_do 11 76 rfl rfl (by kernel_rfl) (by kernel_rfl) (by kernel_rfl) (fun _ _ _ _ _ h => h) (by kernel_rfl) (fun W hS => by go_simp; try with_reducible rfl) E.bel ?_
                  simp only [List.setIfInBounds_toArray, List.set_cons_succ, List.set_cons_zero]
                  refine wpAnyH_do 12 77 rfl rfl (by kernel_rfl) (by kernel_rfl) (by kernel_rfl) (fun _ _ _ _ _ h => h) (by kernel_rfl) (fun W hS => by go_simp; try with_reducible rfl) E.bel ?_
                  simp only [List.setIfInBounds_toArray, List.set_cons_succ, List.set_cons_zero]
                  refine wpAnyH_do 13 78 rfl rfl (by kernel_rfl) (by kernel_rfl) (by kernel_rfl) (fun _ _ _ _ _ h => h) (by kernel_rfl) (fun W hS => by go_simp; try with_reducible rfl) E.bel ?_
                  simp only [List.setIfInBounds_toArray, List.set_cons_succ, List.set_cons_zero]
                  refine wpAnyH_one 14 rfl (by kernel_rfl) (by kernel_rfl) (fun K hK => ?_)
                  go_simp
                  have M9 := M9.below ((Below.refl _ _).alloc (Nat.le_refl _) (.cells #[.int .i64 0, .int .i64 0, .int .i64 0, .int .i64 0, .slice none 0 0, .slice none 0 0] 33))
                  have hz1 : ∀ g, (Value.slice z1 mm.body.length z3).ownBlock = some g → g ≠ x4.heap.size := fun g hg => by have := (l1 g hg).2; omega
                  have hz2 : ∀ g, (Value.slice z2 mm.fnd.length z4).ownBlock = some g → g ≠ x4.heap.size := fun g hg => by have := (l2 g hg).2; omega
                  obtain ⟨hA, hhA⟩ : ∃ hA, x4.heap.size = hA := ⟨_, rfl⟩
                  have E := E.allocZ
                  rw [hhA] at E hz1 hz2 ⊢
                  refine hK _ _ E.bel ?_
                  clear hK hhA
                  try simp only [Act.put, List.setIfInBounds_toArray, List.set_cons_zero, List.set_cons_succ]
                  generalize hgw : x4.alloc (.cells #[.int .i64 0, .int .i64 0, .int .i64 0, .int .i64 0, .slice none 0 0, .slice none 0 0] 33) = x5 at E M9 ⊢
                  clear hgw
                  have Z := E.zero hA rfl
                  have z0 := Z.k0; have q1 := Z.k1; have q2 := Z.k2; have q3 := Z.k3; have q4 := Z.k4; have q5 := Z.k5; have zf := fun j => Z.fz j
                  refine wpAnyH_one 15 rfl (by kernel_rfl) (by kernel_rfl) (fun K hK => ?_)
                  go_simp
                  refine hK _ _ (bel6 E.bel (E.z hA rfl).1 _ _ _ _ _ _) ?_
                  clear hK
                  try simp only [Act.put, List.setIfInBounds_toArray, List.set_cons_zero, List.set_cons_succ]
                  have HR := set6 (E.z hA rfl).2.1 (.int .i64 mm.k) (.int .i64 mm.c) (.int .i64 mm.v) (.int .i64 mm.o) (.slice z1 mm.body.length z3) (.slice z2 mm.fnd.length z4)
                  have BE := bel6 E.bel (E.z hA rfl).1 (.int .i64 mm.k) (.int .i64 mm.c) (.int .i64 mm.v) (.int .i64 mm.o) (.slice z1 mm.body.length z3) (.slice z2 mm.fnd.length z4)
                  refine wpAnyH_do 16 15 rfl rfl (by kernel_rfl) (by kernel_rfl) (by kernel_rfl) (fun _ _ _ _ _ h => h) (by kernel_rfl) (fun W hS => by go_simp; try with_reducible rfl) BE ?_
                  simp only [List.setIfInBounds_toArray, List.set_cons_succ, List.set_cons_zero]
                  refine wpAnyH_do 17 16 rfl rfl (by kernel_rfl) (by kernel_rfl) (by kernel_rfl) (fun _ _ _ _ _ h => h) (by kernel_rfl) (fun W hS => by go_simp; try with_reducible rfl) BE ?_
                  simp only [List.setIfInBounds_toArray, List.set_cons_succ, List.set_cons_zero]
                  refine wpAnyH_done (by kernel_rfl) ?_ _
                  go_wp2_with fail
                  go_meet
                  exact ⟨hA, z1, z2, z3, z4, rfl, rfl, rfl, HR, ⟨rvFar M9.body (fun k hk => far6 hk _ _ _ _ _ _) (fun e => hz1 _ e rfl), rvFar M9.fnd (fun k hk => far6 hk _ _ _ _ _ _) (fun e => hz2 _ e rfl)⟩, BE⟩
                · skip
                  go_simp
                  obtain ⟨hA, hhA⟩ : ∃ hA, x3.heap.size = hA := ⟨_, rfl⟩
                  have E := E.allocZ
                  rw [hhA] at E ⊢
                  refine hK _ _ E.bel ?_
                  clear hK hhA
                  try simp only [Act.put, List.setIfInBounds_toArray, List.set_cons_zero, List.set_cons_succ]
                  generalize hgw : x3.alloc (.cells #[.int .i64 0, .int .i64 0, .int .i64 0, .int .i64 0, .slice none 0 0, .slice none 0 0] 33) = x6 at E ⊢
                  clear hgw
                  refine wpAnyH_one 9 rfl (by kernel_rfl) (by kernel_rfl) (fun K hK => ?_)
                  have hde := decode_any a8 c8 bt _ (Rv.of_own E.own) hbl
                  unfold DePost at hde
                  rw [HDP2.out] at hde
                  have HDE := Lib.hid hde
                  clear hde
                  go_simp
                  refine HDE.out.mono ?_
                  rintro e x7 ⟨x, rfl, ⟨z1, z2, z3, z4, rfl, M9, l1, l2⟩, B9⟩
                  have hzl := E.zlt
                  have E := E.later B9
                  unfold msgV
                  dsimp only
                  refine hK _ _ E.bel ?_
                  clear hK HDE
                  try simp only [Act.put, List.setIfInBounds_toArray, List.set_cons_zero, List.set_cons_succ]
                  have hz1 : ∀ g, (Value.slice z1 mm.body.length z3).ownBlock = some g → g ≠ hA := fun g hg => by have := (l1 g hg).1; have := hzl hA rfl; omega
                  have hz2 : ∀ g, (Value.slice z2 mm.fnd.length z4).ownBlock = some g → g ≠ hA := fun g hg => by have := (l2 g hg).1; have := hzl hA rfl; omega
                  refine wpAnyH_do 10 65 rfl rfl (by kernel_rfl) (by kernel_rfl) (by kernel_rfl) (fun _ _ _ _ _ h => h) (by kernel_rfl) (fun W hS => by go_simp; try with_reducible rfl) E.bel ?_
                  simp only [List.setIfInBounds_toArray, List.set_cons_succ, List.set_cons_zero]
                  refine wpAnyH_do 11 76 rfl rfl (by kernel_rfl) (by kernel_rfl) (by kernel_rfl) (fun _ _ _ _ _ h => h) (by kernel_rfl) (fun W hS => by go_simp; try with_reducible rfl) E.bel ?_
                  simp only [List.setIfInBounds_toArray, List.set_cons_succ, List.set_cons_zero]
                  refine wpAnyH_do 12 77 rfl rfl (by kernel_rfl) (by kernel_rfl) (by kernel_rfl) (fun _ _ _ _ _ h => h) (by kernel_rfl) (fun W hS => by go_simp; try with_reducible rfl) E.bel ?_
                  simp only [List.setIfInBounds_toArray, List.set_cons_succ, List.set_cons_zero]
                  refine wpAnyH_do 13 78 rfl rfl (by kernel_rfl) (by kernel_rfl) (by kernel_rfl) (fun _ _ _ _ _ h => h) (by kernel_rfl) (fun W hS => by go_simp; try with_reducible rfl) E.bel ?_
                  simp only [List.setIfInBounds_toArray, List.set_cons_succ, List.set_cons_zero]
                  have Z := E.zero hA rfl
                  have z0 := Z.k0; have q1 := Z.k1; have q2 := Z.k2; have q3 := Z.k3; have q4 := Z.k4; have q5 := Z.k5; have zf := fun j => Z.fz j
                  refine wpAnyH_one 15 rfl (by kernel_rfl) (by kernel_rfl) (fun K hK => ?_)
                  go_simp
                  refine hK _ _ (bel6 E.bel (E.z hA rfl).1 _ _ _ _ _ _) ?_
                  clear hK
                  try simp only [Act.put, List.setIfInBounds_toArray, List.set_cons_zero, List.set_cons_succ]
                  have HR := set6 (E.z hA rfl).2.1 (.int .i64 mm.k) (.int .i64 mm.c) (.int .i64 mm.v) (.int .i64 mm.o) (.slice z1 mm.body.length z3) (.slice z2 mm.fnd.length z4)
                  have BE := bel6 E.bel (E.z hA rfl).1 (.int .i64 mm.k) (.int .i64 mm.c) (.int .i64 mm.v) (.int .i64 mm.o) (.slice z1 mm.body.length z3) (.slice z2 mm.fnd.length z4)
                  refine wpAnyH_do 16 15 rfl rfl (by kernel_rfl) (by kernel_rfl) (by kernel_rfl) (fun _ _ _ _ _ h => h) (by kernel_rfl) (fun W hS => by go_simp; try with_reducible rfl) BE ?_
                  simp only [List.setIfInBounds_toArray, List.set_cons_succ, List.set_cons_zero]
                  refine wpAnyH_do 17 16 rfl rfl (by kernel_rfl) (by kernel_rfl) (by kernel_rfl) (fun _ _ _ _ _ h => h) (by kernel_rfl) (fun W hS => by go_simp; try with_reducible rfl) BE ?_
                  simp only [List.setIfInBounds_toArray, List.set_cons_succ, List.set_cons_zero]
                  refine wpAnyH_done (by kernel_rfl) ?_ _
                  go_wp2_with fail
                  go_meet
                  exact ⟨hA, z1, z2, z3, z4, rfl, rfl, rfl, HR, ⟨rvFar M9.body (fun k hk => far6 hk _ _ _ _ _ _) (fun e => hz1 _ e rfl), rvFar M9.fnd (fun k hk => far6 hk _ _ _ _ _ _) (fun e => hz2 _ e rfl)⟩, BE⟩
              · skip
                go_simp
                obtain ⟨hA, hhA⟩ : ∃ hA, x2.heap.size = hA := ⟨_, rfl⟩
                have E := E.allocZ
                rw [hhA] at E ⊢
                refine hK _ _ E.bel ?_
                clear hK hhA
                try simp only [Act.put, List.setIfInBounds_toArray, List.set_cons_zero, List.set_cons_succ]
                generalize hgw : x2.alloc (.cells #[.int .i64 0, .int .i64 0, .int .i64 0, .int .i64 0, .slice none 0 0, .slice none 0 0] 33) = x8 at E ⊢
                clear hgw
                refine wpAnyH_one 8 rfl (by kernel_rfl) (by kernel_rfl) (fun K hK => ?_)
                refine opApp rfl _ _ rfl Try.elB ub.heap.size _ _ _ rfl E.own _ t.length _ rfl (RT.below E.bel) (by simp) (ones_B _) (by simp only [List.length_append, List.length_nil]; omega) E.bel.size ?_
                intro va x9 O1 g1 s1
                have E := E.app O1 rfl g1 s1
                clear O1 g1 s1
                obtain ⟨bt, hbt⟩ : ∃ bt, ([] ++ fr ++ t : List UInt8) = bt := ⟨_, rfl⟩
                have hbl : bt.length ≤ 100000000 := by rw [← hbt]; simp only [List.length_append, List.length_nil]; omega
                have HDP2 := HDP.out
                rw [hbt] at E HDP2
                have HDP2 := Lib.hid HDP2
                clear hbt
                obtain ⟨a8, c8, rfl, _, _⟩ := (Rv.of_own E.own).opened
                refine hK _ _ E.bel ?_
                clear hK
                try simp only [Act.put, List.setIfInBounds_toArray, List.set_cons_zero, List.set_cons_succ]
                refine wpAnyH_one 9 rfl (by kernel_rfl) (by kernel_rfl) (fun K hK => ?_)
                have hde := decode_any a8 c8 bt _ (Rv.of_own E.own) hbl
                unfold DePost at hde
                rw [HDP2.out] at hde
                have HDE := Lib.hid hde
                clear hde
                go_simp
                refine HDE.out.mono ?_
                rintro e x10 ⟨x, rfl, ⟨z1, z2, z3, z4, rfl, M9, l1, l2⟩, B9⟩
                have hzl := E.zlt
                have E := E.later B9
                unfold msgV
                dsimp only
                refine hK _ _ E.bel ?_
                clear hK HDE
                try simp only [Act.put, List.setIfInBounds_toArray, List.set_cons_zero, List.set_cons_succ]
                have hz1 : ∀ g, (Value.slice z1 mm.body.length z3).ownBlock = some g → g ≠ hA := fun g hg => by have := (l1 g hg).1; have := hzl hA rfl; omega
                have hz2 : ∀ g, (Value.slice z2 mm.fnd.length z4).ownBlock = some g → g ≠ hA := fun g hg => by have := (l2 g hg).1; have := hzl hA rfl; omega
                refine wpAnyH_do 10 65 rfl rfl (by kernel_rfl) (by kernel_rfl) (by kernel_rfl) (fun _ _ _ _ _ h => h) (by kernel_rfl) (fun W hS => by go_simp; try with_reducible rfl) E.bel ?_
                simp only [List.setIfInBounds_toArray, List.set_cons_succ, List.set_cons_zero]
                refine wpAnyH_do 11 76 rfl rfl (by kernel_rfl) (by kernel_rfl) (by kernel_rfl) (fun _ _ _ _ _ h => h) (by kernel_rfl) (fun W hS => by go_simp; try with_reducible rfl) E.bel ?_
                simp only [List.setIfInBounds_toArray, List.set_cons_succ, List.set_cons_zero]
                refine wpAnyH_do 12 77 rfl rfl (by kernel_rfl) (by kernel_rfl) (by kernel_rfl) (fun _ _ _ _ _ h => h) (by kernel_rfl) (fun W hS => by go_simp; try with_reducible rfl) E.bel ?_
                simp only [List.setIfInBounds_toArray, List.set_cons_succ, List.set_cons_zero]
                refine wpAnyH_do 13 78 rfl rfl (by kernel_rfl) (by kernel_rfl) (by kernel_rfl) (fun _ _ _ _ _ h => h) (by kernel_rfl) (fun W hS => by go_simp; try with_reducible rfl) E.bel ?_
                simp only [List.setIfInBounds_toArray, List.set_cons_succ, List.set_cons_zero]
                have Z := E.zero hA rfl
                have z0 := Z.k0; have q1 := Z.k1; have q2 := Z.k2; have q3 := Z.k3; have q4 := Z.k4; have q5 := Z.k5; have zf := fun j => Z.fz j
                refine wpAnyH_one 15 rfl (by kernel_rfl) (by kernel_rfl) (fun K hK => ?_)
                go_simp
                refine hK _ _ (bel6 E.bel (E.z hA rfl).1 _ _ _ _ _ _) ?_
                clear hK
                try simp only [Act.put, List.setIfInBounds_toArray, List.set_cons_zero, List.set_cons_succ]
                have HR := set6 (E.z hA rfl).2.1 (.int .i64 mm.k) (.int .i64 mm.c) (.int .i64 mm.v) (.int .i64 mm.o) (.slice z1 mm.body.length z3) (.slice z2 mm.fnd.length z4)
                have BE := bel6 E.bel (E.z hA rfl).1 (.int .i64 mm.k) (.int .i64 mm.c) (.int .i64 mm.v) (.int .i64 mm.o) (.slice z1 mm.body.length z3) (.slice z2 mm.fnd.length z4)
                refine wpAnyH_do 16 15 rfl rfl (by kernel_rfl) (by kernel_rfl) (by kernel_rfl) (fun _ _ _ _ _ h => h) (by kernel_rfl) (fun W hS => by go_simp; try with_reducible rfl) BE ?_
                simp only [List.setIfInBounds_toArray, List.set_cons_succ, List.set_cons_zero]
                refine wpAnyH_do 17 16 rfl rfl (by kernel_rfl) (by kernel_rfl) (by kernel_rfl) (fun _ _ _ _ _ h => h) (by kernel_rfl) (fun W hS => by go_simp; try with_reducible rfl) BE ?_
                simp only [List.setIfInBounds_toArray, List.set_cons_succ, List.set_cons_zero]
                refine wpAnyH_done (by kernel_rfl) ?_ _
                go_wp2_with fail
                go_meet
                exact ⟨hA, z1, z2, z3, z4, rfl, rfl, rfl, HR, ⟨rvFar M9.body (fun k hk => far6 hk _ _ _ _ _ _) (fun e => hz1 _ e rfl), rvFar M9.fnd (fun k hk => far6 hk _ _ _ _ _ _) (fun e => hz2 _ e rfl)⟩, BE⟩
            · skip
              go_simp
              obtain ⟨hA, hhA⟩ : ∃ hA, x1.heap.size = hA := ⟨_, rfl⟩
              have E := E.allocZ
              rw [hhA] at E ⊢
              refine hK _ _ E.bel ?_
              clear hK hhA
              try simp only [Act.put, List.setIfInBounds_toArray, List.set_cons_zero, List.set_cons_succ]
              generalize hgw : x1.alloc (.cells #[.int .i64 0, .int .i64 0, .int .i64 0, .int .i64 0, .slice none 0 0, .slice none 0 0] 33) = x11 at E ⊢
              clear hgw
              refine wpAnyH_one 2 rfl (by kernel_rfl) (by kernel_rfl) (fun K hK => ?_)
              refine opApp rfl _ _ rfl Try.elB ub.heap.size _ _ _ rfl E.own _ fr.length _ rfl (rb4.below E.bel) (by simp) (ones_B _) (by simp; omega) E.bel.size ?_
              intro va x12 O1 g1 s1
              have E := E.app O1 rfl g1 s1
              refine hK _ _ E.bel ?_
              clear hK O1 g1 s1
              try simp only [Act.put, List.setIfInBounds_toArray, List.set_cons_zero, List.set_cons_succ]
              refine wpAnyH_one 8 rfl (by kernel_rfl) (by kernel_rfl) (fun K hK => ?_)
              refine opApp rfl _ _ rfl Try.elB ub.heap.size _ _ _ rfl E.own _ t.length _ rfl (RT.below E.bel) (by simp) (ones_B _) (by simp only [List.length_append, List.length_nil]; omega) E.bel.size ?_
              intro va x13 O1 g1 s1
              have E := E.app O1 rfl g1 s1
              clear O1 g1 s1
              obtain ⟨bt, hbt⟩ : ∃ bt, ([] ++ fr ++ t : List UInt8) = bt := ⟨_, rfl⟩
              have hbl : bt.length ≤ 100000000 := by rw [← hbt]; simp only [List.length_append, List.length_nil]; omega
              have HDP2 := HDP.out
              rw [hbt] at E HDP2
              have HDP2 := Lib.hid HDP2
              clear hbt
              obtain ⟨a8, c8, rfl, _, _⟩ := (Rv.of_own E.own).opened
              refine hK _ _ E.bel ?_
              clear hK
              try simp only [Act.put, List.setIfInBounds_toArray, List.set_cons_zero, List.set_cons_succ]
              refine wpAnyH_one 9 rfl (by kernel_rfl) (by kernel_rfl) (fun K hK => ?_)
              have hde := decode_any a8 c8 bt _ (Rv.of_own E.own) hbl
              unfold DePost at hde
              rw [HDP2.out] at hde
              have HDE := Lib.hid hde
              clear hde
              go_simp
              refine HDE.out.mono ?_
              rintro e x14 ⟨x, rfl, ⟨z1, z2, z3, z4, rfl, M9, l1, l2⟩, B9⟩
              have hzl := E.zlt
              have E := E.later B9
              unfold msgV
              dsimp only
              refine hK _ _ E.bel ?_
              clear hK HDE
              try simp only [Act.put, List.setIfInBounds_toArray, List.set_cons_zero, List.set_cons_succ]
              have hz1 : ∀ g, (Value.slice z1 mm.body.length z3).ownBlock = some g → g ≠ hA := fun g hg => by have := (l1 g hg).1; have := hzl hA rfl; omega
              have hz2 : ∀ g, (Value.slice z2 mm.fnd.length z4).ownBlock = some g → g ≠ hA := fun g hg => by have := (l2 g hg).1; have := hzl hA rfl; omega
              refine wpAnyH_do 10 65 rfl rfl (by kernel_rfl) (by kernel_rfl) (by kernel_rfl) (fun _ _ _ _ _ h => h) (by kernel_rfl) (fun W hS => by go_simp; try with_reducible rfl) E.bel ?_
              simp only [List.setIfInBounds_toArray, List.set_cons_succ, List.set_cons_zero]
              refine wpAnyH_do 11 76 rfl rfl (by kernel_rfl) (by kernel_rfl) (by kernel_rfl) (fun _ _ _ _ _ h => h) (by kernel_rfl) (fun W hS => by go_simp; try with_reducible rfl) E.bel ?_
              simp only [List.setIfInBounds_toArray, List.set_cons_succ, List.set_cons_zero]
              refine wpAnyH_do 12 77 rfl rfl (by kernel_rfl) (by kernel_rfl) (by kernel_rfl) (fun _ _ _ _ _ h => h) (by kernel_rfl) (fun W hS => by go_simp; try with_reducible rfl) E.bel ?_
              simp only [List.setIfInBounds_toArray, List.set_cons_succ, List.set_cons_zero]
              refine wpAnyH_do 13 78 rfl rfl (by kernel_rfl) (by kernel_rfl) (by kernel_rfl) (fun _ _ _ _ _ h => h) (by kernel_rfl) (fun W hS => by go_simp; try with_reducible rfl) E.bel ?_
              simp only [List.setIfInBounds_toArray, List.set_cons_succ, List.set_cons_zero]
              have Z := E.zero hA rfl
              have z0 := Z.k0; have q1 := Z.k1; have q2 := Z.k2; have q3 := Z.k3; have q4 := Z.k4; have q5 := Z.k5; have zf := fun j => Z.fz j
              refine wpAnyH_one 15 rfl (by kernel_rfl) (by kernel_rfl) (fun K hK => ?_)
              go_simp
              refine hK _ _ (bel6 E.bel (E.z hA rfl).1 _ _ _ _ _ _) ?_
              clear hK
              try simp only [Act.put, List.setIfInBounds_toArray, List.set_cons_zero, List.set_cons_succ]
              have HR := set6 (E.z hA rfl).2.1 (.int .i64 mm.k) (.int .i64 mm.c) (.int .i64 mm.v) (.int .i64 mm.o) (.slice z1 mm.body.length z3) (.slice z2 mm.fnd.length z4)
              have BE := bel6 E.bel (E.z hA rfl).1 (.int .i64 mm.k) (.int .i64 mm.c) (.int .i64 mm.v) (.int .i64 mm.o) (.slice z1 mm.body.length z3) (.slice z2 mm.fnd.length z4)
              refine wpAnyH_do 16 15 rfl rfl (by kernel_rfl) (by kernel_rfl) (by kernel_rfl) (fun _ _ _ _ _ h => h) (by kernel_rfl) (fun W hS => by go_simp; try with_reducible rfl) BE ?_
              simp only [List.setIfInBounds_toArray, List.set_cons_succ, List.set_cons_zero]
              refine wpAnyH_do 17 16 rfl rfl (by kernel_rfl) (by kernel_rfl) (by kernel_rfl) (fun _ _ _ _ _ h => h) (by kernel_rfl) (fun W hS => by go_simp; try with_reducible rfl) BE ?_
              simp only [List.setIfInBounds_toArray, List.set_cons_succ, List.set_cons_zero]
              refine wpAnyH_done (by kernel_rfl) ?_ _
              go_wp2_with fail
              go_meet
              exact ⟨hA, z1, z2, z3, z4, rfl, rfl, rfl, HR, ⟨rvFar M9.body (fun k hk => far6 hk _ _ _ _ _ _) (fun e => hz1 _ e rfl), rvFar M9.fnd (fun k hk => far6 hk _ _ _ _ _ _) (fun e => hz2 _ e rfl)⟩, BE⟩
          · skip
            go_simp
            obtain ⟨hA, hhA⟩ : ∃ hA, x0.heap.size = hA := ⟨_, rfl⟩
            have E := E.allocZ
            rw [hhA] at E ⊢
            refine hK _ _ E.bel ?_
            clear hK hhA
            try simp only [Act.put, List.setIfInBounds_toArray, List.set_cons_zero, List.set_cons_succ]
            generalize hgw : x0.alloc (.cells #[.int .i64 0, .int .i64 0, .int .i64 0, .int .i64 0, .slice none 0 0, .slice none 0 0] 33) = x15 at E ⊢
            clear hgw
            refine wpAnyH_one 0 rfl (by kernel_rfl) (by kernel_rfl) (fun K hK => ?_)
            go_simp
            have E := E.empty
            refine hK _ _ E.bel ?_
            clear hK
            try simp only [Act.put, List.setIfInBounds_toArray, List.set_cons_zero, List.set_cons_succ]
            generalize hgw : x15.alloc (.cells #[] 5) = x16 at E ⊢
            clear hgw
            refine wpAnyH_one 2 rfl (by kernel_rfl) (by kernel_rfl) (fun K hK => ?_)
            refine opApp rfl _ _ rfl Try.elB ub.heap.size _ _ _ rfl E.own _ fr.length _ rfl (rb4.below E.bel) (by simp) (ones_B _) (by simp; omega) E.bel.size ?_
            intro va x17 O1 g1 s1
            have E := E.app O1 rfl g1 s1
            refine hK _ _ E.bel ?_
            clear hK O1 g1 s1
            try simp only [Act.put, List.setIfInBounds_toArray, List.set_cons_zero, List.set_cons_succ]
            refine wpAnyH_one 8 rfl (by kernel_rfl) (by kernel_rfl) (fun K hK => ?_)
            refine opApp rfl _ _ rfl Try.elB ub.heap.size _ _ _ rfl E.own _ t.length _ rfl (RT.below E.bel) (by simp) (ones_B _) (by simp only [List.length_append, List.length_nil]; omega) E.bel.size ?_
            intro va x18 O1 g1 s1
            have E := E.app O1 rfl g1 s1
            clear O1 g1 s1
            obtain ⟨bt, hbt⟩ : ∃ bt, ([] ++ fr ++ t : List UInt8) = bt := ⟨_, rfl⟩
            have hbl : bt.length ≤ 100000000 := by rw [← hbt]; simp only [List.length_append, List.length_nil]; omega
            have HDP2 := HDP.out
            rw [hbt] at E HDP2
            have HDP2 := Lib.hid HDP2
            clear hbt
            obtain ⟨a8, c8, rfl, _, _⟩ := (Rv.of_own E.own).opened
            refine hK _ _ E.bel ?_
            clear hK
            try simp only [Act.put, List.setIfInBounds_toArray, List.set_cons_zero, List.set_cons_succ]
            refine wpAnyH_one 9 rfl (by kernel_rfl) (by kernel_rfl) (fun K hK => ?_)
            have hde := decode_any a8 c8 bt _ (Rv.of_own E.own) hbl
            unfold DePost at hde
            rw [HDP2.out] at hde
            have HDE := Lib.hid hde
            clear hde
            go_simp
            refine HDE.out.mono ?_
            rintro e x19 ⟨x, rfl, ⟨z1, z2, z3, z4, rfl, M9, l1, l2⟩, B9⟩
            have hzl := E.zlt
            have E := E.later B9
            unfold msgV
            dsimp only
            refine hK _ _ E.bel ?_
            clear hK HDE
            try simp only [Act.put, List.setIfInBounds_toArray, List.set_cons_zero, List.set_cons_succ]
            have hz1 : ∀ g, (Value.slice z1 mm.body.length z3).ownBlock = some g → g ≠ hA := fun g hg => by have := (l1 g hg).1; have := hzl hA rfl; omega
            have hz2 : ∀ g, (Value.slice z2 mm.fnd.length z4).ownBlock = some g → g ≠ hA := fun g hg => by have := (l2 g hg).1; have := hzl hA rfl; omega
            refine wpAnyH_do 10 65 rfl rfl (by kernel_rfl) (by kernel_rfl) (by kernel_rfl) (fun _ _ _ _ _ h => h) (by kernel_rfl) (fun W hS => by go_simp; try with_reducible rfl) E.bel ?_
            simp only [List.setIfInBounds_toArray, List.set_cons_succ, List.set_cons_zero]
            refine wpAnyH_do 11 76 rfl rfl (by kernel_rfl) (by kernel_rfl) (by kernel_rfl) (fun _ _ _ _ _ h => h) (by kernel_rfl) (fun W hS => by go_simp; try with_reducible rfl) E.bel ?_
            simp only [List.setIfInBounds_toArray, List.set_cons_succ, List.set_cons_zero]
            refine wpAnyH_do 12 77 rfl rfl (by kernel_rfl) (by kernel_rfl) (by kernel_rfl) (fun _ _ _ _ _ h => h) (by kernel_rfl) (fun W hS => by go_simp; try with_reducible rfl) E.bel ?_
            simp only [List.setIfInBounds_toArray, List.set_cons_succ, List.set_cons_zero]
            refine wpAnyH_do 13 78 rfl rfl (by kernel_rfl) (by kernel_rfl) (by kernel_rfl) (fun _ _ _ _ _ h => h) (by kernel_rfl) (fun W hS => by go_simp; try with_reducible rfl) E.bel ?_
            simp only [List.setIfInBounds_toArray, List.set_cons_succ, List.set_cons_zero]
            have Z := E.zero hA rfl
            have z0 := Z.k0; have q1 := Z.k1; have q2 := Z.k2; have q3 := Z.k3; have q4 := Z.k4; have q5 := Z.k5; have zf := fun j => Z.fz j
            refine wpAnyH_one 15 rfl (by kernel_rfl) (by kernel_rfl) (fun K hK => ?_)
            go_simp
            refine hK _ _ (bel6 E.bel (E.z hA rfl).1 _ _ _ _ _ _) ?_
            clear hK
            try simp only [Act.put, List.setIfInBounds_toArray, List.set_cons_zero, List.set_cons_succ]
            have HR := set6 (E.z hA rfl).2.1 (.int .i64 mm.k) (.int .i64 mm.c) (.int .i64 mm.v) (.int .i64 mm.o) (.slice z1 mm.body.length z3) (.slice z2 mm.fnd.length z4)
            have BE := bel6 E.bel (E.z hA rfl).1 (.int .i64 mm.k) (.int .i64 mm.c) (.int .i64 mm.v) (.int .i64 mm.o) (.slice z1 mm.body.length z3) (.slice z2 mm.fnd.length z4)
            refine wpAnyH_do 16 15 rfl rfl (by kernel_rfl) (by kernel_rfl) (by kernel_rfl) (fun _ _ _ _ _ h => h) (by kernel_rfl) (fun W hS => by go_simp; try with_reducible rfl) BE ?_
            simp only [List.setIfInBounds_toArray, List.set_cons_succ, List.set_cons_zero]
            refine wpAnyH_do 17 16 rfl rfl (by kernel_rfl) (by kernel_rfl) (by kernel_rfl) (fun _ _ _ _ _ h => h) (by kernel_rfl) (fun W hS => by go_simp; try with_reducible rfl) BE ?_
            simp only [List.setIfInBounds_toArray, List.set_cons_succ, List.set_cons_zero]
            refine wpAnyH_done (by kernel_rfl) ?_ _
            go_wp2_with fail
            go_meet
            exact ⟨hA, z1, z2, z3, z4, rfl, rfl, rfl, HR, ⟨rvFar M9.body (fun k hk => far6 hk _ _ _ _ _ _) (fun e => hz1 _ e rfl), rvFar M9.fnd (fun k hk => far6 hk _ _ _ _ _ _) (fun e => hz2 _ e rfl)⟩, BE⟩
        case rest =>
        rename World => uc
        obtain ⟨h, z1, z2, z3, z4, rfl, rfl, rfl, HZ, N9, B9⟩ := hcut
        have C9 := bel C4 B9
        have Zd := (MCell.one HZ).later (Below.refl _ _).drew
        have Xd := (DC.later C9).later (Below.refl _ _).drew
        have N9d := N9.below (Below.refl uc.heap.size uc).drew
        have NCd := (NC.below C9).below (Below.refl uc.heap.size uc).drew
        have hpl := fun W : World => plain_any mm z1 z2 z3 z4 W
        have hsm := fun (W : World) (h1 : Cells6 W mm z1 z2 z3 z4) (h2 : Cells6 W mm xb xf yb yf) => same_refl mm z1 z2 xb xf z3 z4 yb yf W h1 h2
        unfold msgV at hpl hsm
        have HPL := Lib.hid hpl
        have HSM := Lib.hid hsm
        clear hpl hsm rb4 RT HZ N9
        go_wp2_with fail
        go_region_held3 (fun W' => W'.cell? ⟨h, 0, none⟩ = some (.int .i64 mm.k) ∧ W'.cell? ⟨h, 1, none⟩ = some (.int .i64 mm.c) ∧ W'.cell? ⟨h, 2, none⟩ = some (.int .i64 mm.v) ∧ W'.cell? ⟨h, 3, none⟩ = some (.int .i64 mm.o) ∧ W'.cell? ⟨h, 4, none⟩ = some (.slice z1 mm.body.length z3) ∧ W'.cell? ⟨h, 5, none⟩ = some (.slice z2 mm.fnd.length z4) ∧ W'.cell? ⟨H, i * 6, none⟩ = some (.int .i64 mm.k) ∧ W'.cell? ⟨H, i * 6 + 1, none⟩ = some (.int .i64 mm.c) ∧ W'.cell? ⟨H, i * 6 + 2, none⟩ = some (.int .i64 mm.v) ∧ W'.cell? ⟨H, i * 6 + 3, none⟩ = some (.int .i64 mm.o) ∧ W'.cell? ⟨H, i * 6 + 4, none⟩ = some (.slice xb mm.body.length yb) ∧ W'.cell? ⟨H, i * 6 + 5, none⟩ = some (.slice xf mm.fnd.length yf))
          (first | exact ⟨Z2.k0, Z2.k1, Z2.k2, Z2.k3, Z2.k4, Z2.k5, X2.k0, X2.k1, X2.k2, X2.k3, X2.k4, X2.k5⟩ | exact ⟨Z1.k0, Z1.k1, Z1.k2, Z1.k3, Z1.k4, Z1.k5, X1.k0, X1.k1, X1.k2, X1.k3, X1.k4, X1.k5⟩ | exact ⟨Zd.k0, Zd.k1, Zd.k2, Zd.k3, Zd.k4, Zd.k5, Xd.k0, Xd.k1, Xd.k2, Xd.k3, Xd.k4, Xd.k5⟩)
          (first
            | (go_at_call 17; refine (HPL.out _).mono ?_; rintro e u6 ⟨rfl, B6⟩; have Z1 := Zd.later B6; have X1 := Xd.later B6; have N91 := N9d.below B6; have NC1 := NCd.below B6)
            | (go_at_call 16; refine (HSM.out _ N91 NC1).mono ?_; rintro e u7 ⟨rfl, B7⟩; have Z2 := Z1.later B7; have X2 := X1.later B7))
        go_wp2_with fail
        go_roundw
        case rel => exact ⟨i + 1, by go_num, by omega, bel (bel C9.drew B6) B7⟩
        case measure => simp [intOf]; omega
    · obtain rfl : i = 2 := by omega
      go_wp2_with fail
      refine (plives_any _).mono ?_
      rintro e w15 ⟨rfl, B15⟩
      go_wp2_with fail
      go_ret
      exact ⟨rfl, bel (bel A4 B) B15⟩
end Go.Proofs.Ytadhghikanjkeaa
