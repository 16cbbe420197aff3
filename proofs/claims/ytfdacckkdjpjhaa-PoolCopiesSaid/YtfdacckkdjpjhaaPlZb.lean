/- Package pool: Copy. -/
import Derived.Test.YtfdacckkdjpjhaaPlZa
import Derived.Test.YtfdacckkdjpjhaaPlO
namespace Go.Proofs.Ytfdacckkdjpjhaa
open Go.RowKit Go.Shelf

attribute [local go_sem] Oper.semAt_some

theorem wpAnyH_three {P : Program} {ops : Array Oper} {Q : Exit → Act → World → Prop} {md : Region.Mode} {S : World → Prop} (i j k : Nat) {oi oj ok : Oper} {fuel : Nat} {listed : Array Bool} {a : Act} {w : World}
    (hi : ops[i]? = some oi) (hj : ops[j]? = some oj) (hk : ops[k]? = some ok) (hr : Region.ready md ops listed = [i, j, k]) (hwi : Region.wanted oi (yielded ops a.tmps) = true) (hwj : Region.wanted oj (yielded ops a.tmps) = true) (hwk : Region.wanted ok (yielded ops a.tmps) = true)
    (h1 : ∀ K' : Act → World → Prop, (∀ a w, S w → wpAnyH P md ops Q S fuel (listed.setIfInBounds i true) a w → K' a w) → Oper.wp P oi a w K' Q)
    (h2 : ∀ K' : Act → World → Prop, (∀ a w, S w → wpAnyH P md ops Q S fuel (listed.setIfInBounds j true) a w → K' a w) → Oper.wp P oj a w K' Q)
    (h3 : ∀ K' : Act → World → Prop, (∀ a w, S w → wpAnyH P md ops Q S fuel (listed.setIfInBounds k true) a w → K' a w) → Oper.wp P ok a w K' Q) : wpAnyH P md ops Q S (fuel + 1) listed a w :=
  wpAnyH_ready hr (by simp) (AllReadyH.cons hi (fun K' hK => by rw [if_pos hwi]; exact h1 K' (fun a w hS h => hK.out a w hS (fun _ => h)))
    (AllReadyH.cons hj (fun K' hK => by rw [if_pos hwj]; exact h2 K' (fun a w hS h => hK.out a w hS (fun _ => h)))
      (AllReadyH.cons hk (fun K' hK => by rw [if_pos hwk]; exact h3 K' (fun a w hS h => hK.out a w hS (fun _ => h))) AllReadyH.nil)))
/-- Q at the normal exit alone. -/
def OnlyN (Q : Exit → Act → World → Prop) : Exit → Act → World → Prop
  | .normal, a, w => Q .normal a w
  | _, _, _ => False
theorem OnlyN.normal {Q : Exit → Act → World → Prop} {a : Act} {w : World} (h : Q .normal a w) : OnlyN Q .normal a w := h
theorem OnlyN.imp {Q : Exit → Act → World → Prop} : ∀ (e : Exit) (a : Act) (w : World), OnlyN Q e a w → Q e a w := fun e a w h => by
  cases e <;> first | exact h | exact (h : False).elim
/-- What a copy is made of so far. -/
structure Cst (w W : World) (D : Pl) (wv : Option Value) (mb cb c : Option Nat) : Prop where
  bel : Below w.heap.size w W
  o : ∀ v, wv = some v → W.ownsRow w.heap.size 105 3 v D.ws.length (wcells D.ws)
  m : ∀ b, mb = some b → MapF W b (fun _ => none) [] ∧ w.heap.size ≤ b
  b : ∀ x, cb = some x → W.heap[x]? = some (.cells #[.pointer none] 31 (0, 0)) ∧ w.heap.size ≤ x
  c : ∀ x, c = some x → (∃ v y, wv = some v ∧ mb = some y ∧ W.heap[x]? = some (plO D v y)) ∧ w.heap.size ≤ x
/-- The copy without its tasks, its pointer in block cb. -/
structure Cp0 (w W : World) (D : Pl) (cb c mb : Nat) (wv : Value) : Prop where
  bel : Below w.heap.size w W
  bx : W.heap[cb]? = some (.cells #[.pointer (some ⟨c, 0, none⟩)] 31 (0, 0))
  blk : W.heap[c]? = some (plO D wv mb)
  row : W.ownsRow w.heap.size 105 3 wv D.ws.length (wcells D.ws)
  map : MapF W mb (fun _ => none) []
  lo : w.heap.size ≤ cb ∧ w.heap.size ≤ c ∧ w.heap.size ≤ mb
section
variable {w W W' : World} {D : Pl} {wv : Option Value} {mb cb c : Option Nat} {v : Value}
theorem Cst.later (h : Cst w W D wv mb cb c) (B : Below W.heap.size W W') : Cst w W' D wv mb cb c :=
  ⟨Go.Proofs.Ytfdacckkdjpjhaa.bel h.bel B, fun v hv => own_below (h.o v hv) B, fun b hb => ⟨(h.m b hb).1.kept (B.block b (h.m b hb).1.lt), (h.m b hb).2⟩,
    fun x hx => ⟨(B.block x (Array.getElem?_eq_some_iff.1 (h.b x hx).1).1).trans (h.b x hx).1, (h.b x hx).2⟩,
    fun x hx => by
      obtain ⟨⟨v, y, h1, h2, h3⟩, h4⟩ := h.c x hx
      exact ⟨⟨v, y, h1, h2, (B.block x (Array.getElem?_eq_some_iff.1 h3).1).trans h3⟩, h4⟩⟩
theorem Cst.clone (h : Cst w W D none mb cb none) (O : W'.ownsRow W.heap.size 105 3 v D.ws.length (wcells D.ws)) (B : Below W.heap.size W W') : Cst w W' D (some v) mb cb none := by
  have h' := h.later B
  exact ⟨h'.bel, fun u hu => by cases hu; exact own_base O h.bel.size, h'.m, h'.b, (fun x hx => by cases hx)⟩
theorem Cst.map (h : Cst w W D wv none cb none) : Cst w (W.alloc (.map #[] 0)) D wv (some W.heap.size) cb none := by
  have h' := h.later ((Below.refl W.heap.size W).alloc (Nat.le_refl _) (.map #[] 0))
  exact ⟨h'.bel, h'.o, fun b hb => by cases hb; exact ⟨MapF.new W, h.bel.size⟩, h'.b, (fun x hx => by cases hx)⟩
theorem Cst.box (h : Cst w W D wv mb none c) : Cst w (W.alloc (.cells #[.pointer none] 31)) D wv mb (some W.heap.size) c := by
  have h' := h.later ((Below.refl W.heap.size W).alloc (Nat.le_refl _) (.cells #[.pointer none] 31))
  exact ⟨h'.bel, h'.o, h'.m, fun x hx => by cases hx; exact ⟨World.alloc_heap_new W _, h.bel.size⟩, h'.c⟩
theorem Cst.pl {y : Nat} (h : Cst w W D (some v) (some y) cb none) : Cst w (W.alloc (plO D v y)) D (some v) (some y) cb (some W.heap.size) := by
  have h' := h.later ((Below.refl W.heap.size W).alloc (Nat.le_refl _) (plO D v y))
  exact ⟨h'.bel, h'.o, h'.m, h'.b, fun x hx => by cases hx; exact ⟨⟨v, y, rfl, rfl, World.alloc_heap_new W _⟩, h.bel.size⟩⟩
theorem Cst.cel {x : Nat} (h : Cst w W D wv mb (some x) c) : W.cell? ⟨x, 0, none⟩ = some (.pointer none) ∧ W.frozen? ⟨x, 0, none⟩ = false ∧ x < W.heap.size := by
  have hb := (h.b x rfl).1
  exact ⟨by simp [World.cell?, hb], by simp [World.frozen?, hb], (Array.getElem?_eq_some_iff.1 hb).1⟩
theorem Cst.fin {x y z : Nat} (h : Cst w W D (some v) (some y) (some x) (some z)) : Cp0 w (W.setCell ⟨x, 0, none⟩ (.pointer (some ⟨z, 0, none⟩))) D x z y v := by
  obtain ⟨hb, hx⟩ := h.b x rfl
  obtain ⟨⟨v', y', e1, e2, hc⟩, hz⟩ := h.c z rfl
  cases e1
  cases e2
  obtain ⟨hm, hy⟩ := h.m y rfl
  have hO := h.o v rfl
  have k1 : kindAt W x = some (some 31) := by unfold kindAt; rw [hb]; rfl
  have k2 : kindAt W z = some (some 98) := by unfold kindAt; rw [hc]; rfl
  have k3 : kindAt W y = some none := by
    obtain ⟨arr, clock, h1, _⟩ := hm.ex
    unfold kindAt
    rw [h1]
    rfl
  refine ⟨h.bel.setCell (p := ⟨x, 0, none⟩) hx _, ?_, (Below.heap_setCell _ _ _ _ (kind_ne k2 k1 (by decide))).trans hc, own_same hO (fun b hb2 => Below.heap_setCell _ _ _ _ (kind_ne (own_kind hO hb2) k1 (by decide))), hm.kept (Below.heap_setCell _ _ _ _ (kind_ne k3 k1 (by decide))), hx, hz, hy⟩
  simp [World.setCell, Array.getElem?_modify, hb]
end
section
variable {p : Nat} {X R : Nat → Prop} {D : Pl}
set_option maxRecDepth 100000 in
set_option maxHeartbeats 8000000 in
theorem pcopy_any (w : World) (h : PAt w p X R D) (htl : ∀ k e, D.ts k = some e → e.tries.length ≤ 1000000000) :
    Calls Try.prog 42 #[.pointer (some ⟨p, 0, none⟩)] w fun e w' => ∃ c X2, e = .returned (.pointer (some ⟨c, 0, none⟩)) ∧ PAt w' c X2 R D ∧ (∀ b, X2 b → w.heap.size ≤ b) ∧ Below w.heap.size w w' := by
  obtain ⟨mb, wv, F, ks, Bk, TV, BV, AV, h⟩ := h
  refine (callsIn_wide (n := 5)).1 ?_
  refine callsIn_of_wp_marks Try.func42 rfl trivial ?_ rfl
  simp only [Try.ntmps42, List.size_toArray, List.length_cons, List.length_nil, Nat.reduceAdd, Nat.reduceSub, Array.replicate_succ, Array.replicate_zero, List.push_toArray, List.append_toArray, List.nil_append, List.cons_append]
  have HH := Lib.hid h
  have HTL := Lib.hid htl
  clear htl
  have hpl := h.lt
  have hmm := fun W : World => run_makeMap (P := Try.prog) 96 W
  have q0 := h.c0
  have q1 := h.c1
  have q2 := h.c2
  have hwsl := h.ok.wsl
  have hrow : ∀ W, Below w.heap.size w W → Rv W wv D.ws.length (wcells D.ws) := fun W B => Rv.of_own (own_below h.row B)
  have hS : ∀ W, Below w.heap.size w W → W.cell? ⟨p, 0, none⟩ = some (.int .i64 D.timeout) ∧ W.cell? ⟨p, 1, none⟩ = some (.int .i64 D.tick) ∧ W.cell? ⟨p, 2, none⟩ = some wv := fun W B => ⟨(B.cell (p := ⟨p, 0, none⟩) hpl).trans q0, (B.cell (p := ⟨p, 1, none⟩) hpl).trans q1, (B.cell (p := ⟨p, 2, none⟩) hpl).trans q2⟩
  clear h
  gi_upto_region 1 with fail
  gi_cut [3] from 7 (fun s wr => ∃ cb c mb2 wv2, s = .pointer (some ⟨cb, 0, none⟩) ∧ Cp0 w wr D cb c mb2 wv2)
  case first =>
    refine wpIn_mono (Q := OnlyN _) ?_ OnlyN.imp
    refine wpIn_region_of_any0 (by kernel_rfl) (noRows_of (by decide)) (fun ⟨_, _, h⟩ => h) ?_
    refine wpAny_of_held (S := fun W => W.cell? ⟨p, 0, none⟩ = some (.int .i64 D.timeout) ∧ W.cell? ⟨p, 1, none⟩ = some (.int .i64 D.tick) ∧ W.cell? ⟨p, 2, none⟩ = some wv) _ _ _ _ ?_
    change wpAnyH _ _ _ _ _ _ _ _ w.drew
    have B0 := (Below.refl w.heap.size w).drew
    have C0 : Cst w w.drew D none none none none := ⟨B0, (fun v hv => by cases hv), (fun v hv => by cases hv), (fun v hv => by cases hv), (fun v hv => by cases hv)⟩
    clear B0
    generalize w.drew = w0 at C0 ⊢
    have s0 := hS w0 C0.bel
    refine wpAnyH_do 0 7 rfl rfl (by kernel_rfl) (by kernel_rfl) (by kernel_rfl) (fun _ _ _ _ _ h => h) (by kernel_rfl) (fun W hS => by (obtain ⟨s1, s2, s3⟩ := hS); go_simp; try with_reducible rfl) s0 ?_
    simp only [List.setIfInBounds_toArray, List.set_cons_succ, List.set_cons_zero]
    refine wpAnyH_do 1 8 rfl rfl (by kernel_rfl) (by kernel_rfl) (by kernel_rfl) (fun _ _ _ _ _ h => h) (by kernel_rfl) (fun W hS => by (obtain ⟨s1, s2, s3⟩ := hS); go_simp; try with_reducible rfl) s0 ?_
    simp only [List.setIfInBounds_toArray, List.set_cons_succ, List.set_cons_zero]
    refine wpAnyH_do 2 9 rfl rfl (by kernel_rfl) (by kernel_rfl) (by kernel_rfl) (fun _ _ _ _ _ h => h) (by kernel_rfl) (fun W hS => by (obtain ⟨s1, s2, s3⟩ := hS); go_simp; try with_reducible rfl) s0 ?_
    simp only [List.setIfInBounds_toArray, List.set_cons_succ, List.set_cons_zero]
    refine wpAnyH_do 3 10 rfl rfl (by kernel_rfl) (by kernel_rfl) (by kernel_rfl) (fun _ _ _ _ _ h => h) (by kernel_rfl) (fun W hS => by (obtain ⟨s1, s2, s3⟩ := hS); go_simp; try with_reducible rfl) s0 ?_
    simp only [List.setIfInBounds_toArray, List.set_cons_succ, List.set_cons_zero]
    refine wpAnyH_do 4 11 rfl rfl (by kernel_rfl) (by kernel_rfl) (by kernel_rfl) (fun _ _ _ _ _ h => h) (by kernel_rfl) (fun W hS => by (obtain ⟨s1, s2, s3⟩ := hS); go_simp; try with_reducible rfl) s0 ?_
    simp only [List.setIfInBounds_toArray, List.set_cons_succ, List.set_cons_zero]
    refine wpAnyH_do 5 12 rfl rfl (by kernel_rfl) (by kernel_rfl) (by kernel_rfl) (fun _ _ _ _ _ h => h) (by kernel_rfl) (fun W hS => by (obtain ⟨s1, s2, s3⟩ := hS); go_simp; try with_reducible rfl) s0 ?_
    simp only [List.setIfInBounds_toArray, List.set_cons_succ, List.set_cons_zero]
    refine wpAnyH_do 6 13 rfl rfl (by kernel_rfl) (by kernel_rfl) (by kernel_rfl) (fun _ _ _ _ _ h => h) (by kernel_rfl) (fun W hS => by (obtain ⟨s1, s2, s3⟩ := hS); go_simp; try with_reducible rfl) s0 ?_
    simp only [List.setIfInBounds_toArray, List.set_cons_succ, List.set_cons_zero]
    refine wpAnyH_do 7 14 rfl rfl (by kernel_rfl) (by kernel_rfl) (by kernel_rfl) (fun _ _ _ _ _ h => h) (by kernel_rfl) (fun W hS => by (obtain ⟨s1, s2, s3⟩ := hS); go_simp; try with_reducible rfl) s0 ?_
    simp only [List.setIfInBounds_toArray, List.set_cons_succ, List.set_cons_zero]
    refine wpAnyH_do 8 15 rfl rfl (by kernel_rfl) (by kernel_rfl) (by kernel_rfl) (fun _ _ _ _ _ h => h) (by kernel_rfl) (fun W hS => by (obtain ⟨s1, s2, s3⟩ := hS); go_simp; try with_reducible rfl) s0 ?_
    simp only [List.setIfInBounds_toArray, List.set_cons_succ, List.set_cons_zero]
    refine wpAnyH_do 9 16 rfl rfl (by kernel_rfl) (by kernel_rfl) (by kernel_rfl) (fun _ _ _ _ _ h => h) (by kernel_rfl) (fun W hS => by (obtain ⟨s1, s2, s3⟩ := hS); go_simp; try with_reducible rfl) s0 ?_
    simp only [List.setIfInBounds_toArray, List.set_cons_succ, List.set_cons_zero]
    refine wpAnyH_do 10 17 rfl rfl (by kernel_rfl) (by kernel_rfl) (by kernel_rfl) (fun _ _ _ _ _ h => h) (by kernel_rfl) (fun W hS => by (obtain ⟨s1, s2, s3⟩ := hS); go_simp; try with_reducible rfl) s0 ?_
    simp only [List.setIfInBounds_toArray, List.set_cons_succ, List.set_cons_zero]
    refine wpAnyH_do 11 18 rfl rfl (by kernel_rfl) (by kernel_rfl) (by kernel_rfl) (fun _ _ _ _ _ h => h) (by kernel_rfl) (fun W hS => by (obtain ⟨s1, s2, s3⟩ := hS); go_simp; try with_reducible rfl) s0 ?_
    simp only [List.setIfInBounds_toArray, List.set_cons_succ, List.set_cons_zero]
    refine wpAnyH_three 12 13 16 rfl rfl rfl (by kernel_rfl) (by kernel_rfl) (by kernel_rfl) (by kernel_rfl) (fun K hK => ?_) (fun K hK => ?_) (fun K hK => ?_)
    · go_simp
      refine (cloneW_any _ D.ws w0 (hrow w0 C0.bel) hwsl).mono ?_
      rintro e w12 ⟨v12, rfl, O12, B12⟩
      obtain ⟨a12, c12, rfl⟩ := own_isSlice O12
      have C12 := C0.clone O12 B12
      refine hK _ _ (hS _ C12.bel) ?_
      clear hK
      refine wpAnyH_two 13 16 rfl rfl (by kernel_rfl) (by kernel_rfl) (by kernel_rfl) (fun K hK => ?_) (fun K hK => ?_)
      · go_simp
        have C13 := C12.map
        refine hK _ _ (hS _ C13.bel) ?_
        clear hK
        obtain ⟨m13, hm13⟩ : ∃ x, w12.heap.size = x := ⟨_, rfl⟩
        rw [hm13] at C13 ⊢
        generalize w12.alloc (.map #[] 0) = w13 at C13 ⊢
        clear hm13
        have s14 := hS w13 C13.bel
        refine wpAnyH_do 14 21 rfl rfl (by kernel_rfl) (by kernel_rfl) (by kernel_rfl) (fun _ _ _ _ _ h => h) (by kernel_rfl) (fun W hS => by (obtain ⟨s1, s2, s3⟩ := hS); go_simp; try with_reducible rfl) s14 ?_
        simp only [List.setIfInBounds_toArray, List.set_cons_succ, List.set_cons_zero]
        refine wpAnyH_two 15 16 rfl rfl (by kernel_rfl) (by kernel_rfl) (by kernel_rfl) (fun K hK => ?_) (fun K hK => ?_)
        · go_simp
          have C15 := C13.pl
          change Cst w (w13.alloc (.cells #[.int .i64 D.timeout, .int .i64 D.tick, .slice a12 D.ws.length c12, .map (some m13)] 98)) _ _ _ _ _ at C15
          refine hK _ _ (hS _ C15.bel) ?_
          clear hK
          obtain ⟨m15, hm15⟩ : ∃ x, w13.heap.size = x := ⟨_, rfl⟩
          rw [hm15] at C15 ⊢
          generalize w13.alloc (.cells #[.int .i64 D.timeout, .int .i64 D.tick, .slice a12 D.ws.length c12, .map (some m13)] 98) = w15 at C15 ⊢
          clear hm15
          refine wpAnyH_one 16 rfl (by kernel_rfl) (by kernel_rfl) (fun K hK => ?_)
          go_simp
          have C16 := C15.box
          refine hK _ _ (hS _ C16.bel) ?_
          clear hK
          obtain ⟨m16, hm16⟩ : ∃ x, w15.heap.size = x := ⟨_, rfl⟩
          rw [hm16] at C16 ⊢
          generalize w15.alloc (.cells #[.pointer none] 31) = w16 at C16 ⊢
          clear hm16
          refine wpAnyH_one 17 rfl (by kernel_rfl) (by kernel_rfl) (fun K hK => ?_)
          obtain ⟨q1, q2, q3⟩ := C16.cel
          go_simp
          have E17 := C16.fin
          refine hK _ _ (hS _ E17.bel) ?_
          clear hK
          refine wpAnyH_done (by kernel_rfl) ?_ _
          refine OnlyN.normal ?_
          gi_wp2
          gi_meet
          exact ⟨_, _, _, _, rfl, E17⟩
        · go_simp
          have C16 := C13.box
          refine hK _ _ (hS _ C16.bel) ?_
          clear hK
          obtain ⟨m16, hm16⟩ : ∃ x, w13.heap.size = x := ⟨_, rfl⟩
          rw [hm16] at C16 ⊢
          generalize w13.alloc (.cells #[.pointer none] 31) = w16 at C16 ⊢
          clear hm16
          refine wpAnyH_one 15 rfl (by kernel_rfl) (by kernel_rfl) (fun K hK => ?_)
          go_simp
          have C15 := C16.pl
          change Cst w (w16.alloc (.cells #[.int .i64 D.timeout, .int .i64 D.tick, .slice a12 D.ws.length c12, .map (some m13)] 98)) _ _ _ _ _ at C15
          refine hK _ _ (hS _ C15.bel) ?_
          clear hK
          obtain ⟨m15, hm15⟩ : ∃ x, w16.heap.size = x := ⟨_, rfl⟩
          rw [hm15] at C15 ⊢
          generalize w16.alloc (.cells #[.int .i64 D.timeout, .int .i64 D.tick, .slice a12 D.ws.length c12, .map (some m13)] 98) = w15 at C15 ⊢
          clear hm15
          refine wpAnyH_one 17 rfl (by kernel_rfl) (by kernel_rfl) (fun K hK => ?_)
          obtain ⟨q1, q2, q3⟩ := C15.cel
          go_simp
          have E17 := C15.fin
          refine hK _ _ (hS _ E17.bel) ?_
          clear hK
          refine wpAnyH_done (by kernel_rfl) ?_ _
          refine OnlyN.normal ?_
          gi_wp2
          gi_meet
          exact ⟨_, _, _, _, rfl, E17⟩
      · go_simp
        have C16 := C12.box
        refine hK _ _ (hS _ C16.bel) ?_
        clear hK
        obtain ⟨m16, hm16⟩ : ∃ x, w12.heap.size = x := ⟨_, rfl⟩
        rw [hm16] at C16 ⊢
        generalize w12.alloc (.cells #[.pointer none] 31) = w16 at C16 ⊢
        clear hm16
        refine wpAnyH_one 13 rfl (by kernel_rfl) (by kernel_rfl) (fun K hK => ?_)
        go_simp
        have C13 := C16.map
        refine hK _ _ (hS _ C13.bel) ?_
        clear hK
        obtain ⟨m13, hm13⟩ : ∃ x, w16.heap.size = x := ⟨_, rfl⟩
        rw [hm13] at C13 ⊢
        generalize w16.alloc (.map #[] 0) = w13 at C13 ⊢
        clear hm13
        have s14 := hS w13 C13.bel
        refine wpAnyH_do 14 21 rfl rfl (by kernel_rfl) (by kernel_rfl) (by kernel_rfl) (fun _ _ _ _ _ h => h) (by kernel_rfl) (fun W hS => by (obtain ⟨s1, s2, s3⟩ := hS); go_simp; try with_reducible rfl) s14 ?_
        simp only [List.setIfInBounds_toArray, List.set_cons_succ, List.set_cons_zero]
        refine wpAnyH_one 15 rfl (by kernel_rfl) (by kernel_rfl) (fun K hK => ?_)
        go_simp
        have C15 := C13.pl
        change Cst w (w13.alloc (.cells #[.int .i64 D.timeout, .int .i64 D.tick, .slice a12 D.ws.length c12, .map (some m13)] 98)) _ _ _ _ _ at C15
        refine hK _ _ (hS _ C15.bel) ?_
        clear hK
        obtain ⟨m15, hm15⟩ : ∃ x, w13.heap.size = x := ⟨_, rfl⟩
        rw [hm15] at C15 ⊢
        generalize w13.alloc (.cells #[.int .i64 D.timeout, .int .i64 D.tick, .slice a12 D.ws.length c12, .map (some m13)] 98) = w15 at C15 ⊢
        clear hm15
        refine wpAnyH_one 17 rfl (by kernel_rfl) (by kernel_rfl) (fun K hK => ?_)
        obtain ⟨q1, q2, q3⟩ := C15.cel
        go_simp
        have E17 := C15.fin
        refine hK _ _ (hS _ E17.bel) ?_
        clear hK
        refine wpAnyH_done (by kernel_rfl) ?_ _
        refine OnlyN.normal ?_
        gi_wp2
        gi_meet
        exact ⟨_, _, _, _, rfl, E17⟩
    · go_simp
      have C13 := C0.map
      refine hK _ _ (hS _ C13.bel) ?_
      clear hK
      obtain ⟨m13, hm13⟩ : ∃ x, w0.heap.size = x := ⟨_, rfl⟩
      rw [hm13] at C13 ⊢
      generalize w0.alloc (.map #[] 0) = w13 at C13 ⊢
      clear hm13
      refine wpAnyH_two 12 16 rfl rfl (by kernel_rfl) (by kernel_rfl) (by kernel_rfl) (fun K hK => ?_) (fun K hK => ?_)
      · go_simp
        refine (cloneW_any _ D.ws w13 (hrow w13 C13.bel) hwsl).mono ?_
        rintro e w12 ⟨v12, rfl, O12, B12⟩
        obtain ⟨a12, c12, rfl⟩ := own_isSlice O12
        have C12 := C13.clone O12 B12
        refine hK _ _ (hS _ C12.bel) ?_
        clear hK
        have s14 := hS w12 C12.bel
        refine wpAnyH_do 14 21 rfl rfl (by kernel_rfl) (by kernel_rfl) (by kernel_rfl) (fun _ _ _ _ _ h => h) (by kernel_rfl) (fun W hS => by (obtain ⟨s1, s2, s3⟩ := hS); go_simp; try with_reducible rfl) s14 ?_
        simp only [List.setIfInBounds_toArray, List.set_cons_succ, List.set_cons_zero]
        refine wpAnyH_two 15 16 rfl rfl (by kernel_rfl) (by kernel_rfl) (by kernel_rfl) (fun K hK => ?_) (fun K hK => ?_)
        · go_simp
          have C15 := C12.pl
          change Cst w (w12.alloc (.cells #[.int .i64 D.timeout, .int .i64 D.tick, .slice a12 D.ws.length c12, .map (some m13)] 98)) _ _ _ _ _ at C15
          refine hK _ _ (hS _ C15.bel) ?_
          clear hK
          obtain ⟨m15, hm15⟩ : ∃ x, w12.heap.size = x := ⟨_, rfl⟩
          rw [hm15] at C15 ⊢
          generalize w12.alloc (.cells #[.int .i64 D.timeout, .int .i64 D.tick, .slice a12 D.ws.length c12, .map (some m13)] 98) = w15 at C15 ⊢
          clear hm15
          refine wpAnyH_one 16 rfl (by kernel_rfl) (by kernel_rfl) (fun K hK => ?_)
          go_simp
          have C16 := C15.box
          refine hK _ _ (hS _ C16.bel) ?_
          clear hK
          obtain ⟨m16, hm16⟩ : ∃ x, w15.heap.size = x := ⟨_, rfl⟩
          rw [hm16] at C16 ⊢
          generalize w15.alloc (.cells #[.pointer none] 31) = w16 at C16 ⊢
          clear hm16
          refine wpAnyH_one 17 rfl (by kernel_rfl) (by kernel_rfl) (fun K hK => ?_)
          obtain ⟨q1, q2, q3⟩ := C16.cel
          go_simp
          have E17 := C16.fin
          refine hK _ _ (hS _ E17.bel) ?_
          clear hK
          refine wpAnyH_done (by kernel_rfl) ?_ _
          refine OnlyN.normal ?_
          gi_wp2
          gi_meet
          exact ⟨_, _, _, _, rfl, E17⟩
        · go_simp
          have C16 := C12.box
          refine hK _ _ (hS _ C16.bel) ?_
          clear hK
          obtain ⟨m16, hm16⟩ : ∃ x, w12.heap.size = x := ⟨_, rfl⟩
          rw [hm16] at C16 ⊢
          generalize w12.alloc (.cells #[.pointer none] 31) = w16 at C16 ⊢
          clear hm16
          refine wpAnyH_one 15 rfl (by kernel_rfl) (by kernel_rfl) (fun K hK => ?_)
          go_simp
          have C15 := C16.pl
          change Cst w (w16.alloc (.cells #[.int .i64 D.timeout, .int .i64 D.tick, .slice a12 D.ws.length c12, .map (some m13)] 98)) _ _ _ _ _ at C15
          refine hK _ _ (hS _ C15.bel) ?_
          clear hK
          obtain ⟨m15, hm15⟩ : ∃ x, w16.heap.size = x := ⟨_, rfl⟩
          rw [hm15] at C15 ⊢
          generalize w16.alloc (.cells #[.int .i64 D.timeout, .int .i64 D.tick, .slice a12 D.ws.length c12, .map (some m13)] 98) = w15 at C15 ⊢
          clear hm15
          refine wpAnyH_one 17 rfl (by kernel_rfl) (by kernel_rfl) (fun K hK => ?_)
          obtain ⟨q1, q2, q3⟩ := C15.cel
          go_simp
          have E17 := C15.fin
          refine hK _ _ (hS _ E17.bel) ?_
          clear hK
          refine wpAnyH_done (by kernel_rfl) ?_ _
          refine OnlyN.normal ?_
          gi_wp2
          gi_meet
          exact ⟨_, _, _, _, rfl, E17⟩
      · go_simp
        have C16 := C13.box
        refine hK _ _ (hS _ C16.bel) ?_
        clear hK
        obtain ⟨m16, hm16⟩ : ∃ x, w13.heap.size = x := ⟨_, rfl⟩
        rw [hm16] at C16 ⊢
        generalize w13.alloc (.cells #[.pointer none] 31) = w16 at C16 ⊢
        clear hm16
        refine wpAnyH_one 12 rfl (by kernel_rfl) (by kernel_rfl) (fun K hK => ?_)
        go_simp
        refine (cloneW_any _ D.ws w16 (hrow w16 C16.bel) hwsl).mono ?_
        rintro e w12 ⟨v12, rfl, O12, B12⟩
        obtain ⟨a12, c12, rfl⟩ := own_isSlice O12
        have C12 := C16.clone O12 B12
        refine hK _ _ (hS _ C12.bel) ?_
        clear hK
        have s14 := hS w12 C12.bel
        refine wpAnyH_do 14 21 rfl rfl (by kernel_rfl) (by kernel_rfl) (by kernel_rfl) (fun _ _ _ _ _ h => h) (by kernel_rfl) (fun W hS => by (obtain ⟨s1, s2, s3⟩ := hS); go_simp; try with_reducible rfl) s14 ?_
        simp only [List.setIfInBounds_toArray, List.set_cons_succ, List.set_cons_zero]
        refine wpAnyH_one 15 rfl (by kernel_rfl) (by kernel_rfl) (fun K hK => ?_)
        go_simp
        have C15 := C12.pl
        change Cst w (w12.alloc (.cells #[.int .i64 D.timeout, .int .i64 D.tick, .slice a12 D.ws.length c12, .map (some m13)] 98)) _ _ _ _ _ at C15
        refine hK _ _ (hS _ C15.bel) ?_
        clear hK
        obtain ⟨m15, hm15⟩ : ∃ x, w12.heap.size = x := ⟨_, rfl⟩
        rw [hm15] at C15 ⊢
        generalize w12.alloc (.cells #[.int .i64 D.timeout, .int .i64 D.tick, .slice a12 D.ws.length c12, .map (some m13)] 98) = w15 at C15 ⊢
        clear hm15
        refine wpAnyH_one 17 rfl (by kernel_rfl) (by kernel_rfl) (fun K hK => ?_)
        obtain ⟨q1, q2, q3⟩ := C15.cel
        go_simp
        have E17 := C15.fin
        refine hK _ _ (hS _ E17.bel) ?_
        clear hK
        refine wpAnyH_done (by kernel_rfl) ?_ _
        refine OnlyN.normal ?_
        gi_wp2
        gi_meet
        exact ⟨_, _, _, _, rfl, E17⟩
    · go_simp
      have C16 := C0.box
      refine hK _ _ (hS _ C16.bel) ?_
      clear hK
      obtain ⟨m16, hm16⟩ : ∃ x, w0.heap.size = x := ⟨_, rfl⟩
      rw [hm16] at C16 ⊢
      generalize w0.alloc (.cells #[.pointer none] 31) = w16 at C16 ⊢
      clear hm16
      refine wpAnyH_two 12 13 rfl rfl (by kernel_rfl) (by kernel_rfl) (by kernel_rfl) (fun K hK => ?_) (fun K hK => ?_)
      · go_simp
        refine (cloneW_any _ D.ws w16 (hrow w16 C16.bel) hwsl).mono ?_
        rintro e w12 ⟨v12, rfl, O12, B12⟩
        obtain ⟨a12, c12, rfl⟩ := own_isSlice O12
        have C12 := C16.clone O12 B12
        refine hK _ _ (hS _ C12.bel) ?_
        clear hK
        refine wpAnyH_one 13 rfl (by kernel_rfl) (by kernel_rfl) (fun K hK => ?_)
        go_simp
        have C13 := C12.map
        refine hK _ _ (hS _ C13.bel) ?_
        clear hK
        obtain ⟨m13, hm13⟩ : ∃ x, w12.heap.size = x := ⟨_, rfl⟩
        rw [hm13] at C13 ⊢
        generalize w12.alloc (.map #[] 0) = w13 at C13 ⊢
        clear hm13
        have s14 := hS w13 C13.bel
        refine wpAnyH_do 14 21 rfl rfl (by kernel_rfl) (by kernel_rfl) (by kernel_rfl) (fun _ _ _ _ _ h => h) (by kernel_rfl) (fun W hS => by (obtain ⟨s1, s2, s3⟩ := hS); go_simp; try with_reducible rfl) s14 ?_
        simp only [List.setIfInBounds_toArray, List.set_cons_succ, List.set_cons_zero]
        refine wpAnyH_one 15 rfl (by kernel_rfl) (by kernel_rfl) (fun K hK => ?_)
        go_simp
        have C15 := C13.pl
        change Cst w (w13.alloc (.cells #[.int .i64 D.timeout, .int .i64 D.tick, .slice a12 D.ws.length c12, .map (some m13)] 98)) _ _ _ _ _ at C15
        refine hK _ _ (hS _ C15.bel) ?_
        clear hK
        obtain ⟨m15, hm15⟩ : ∃ x, w13.heap.size = x := ⟨_, rfl⟩
        rw [hm15] at C15 ⊢
        generalize w13.alloc (.cells #[.int .i64 D.timeout, .int .i64 D.tick, .slice a12 D.ws.length c12, .map (some m13)] 98) = w15 at C15 ⊢
        clear hm15
        refine wpAnyH_one 17 rfl (by kernel_rfl) (by kernel_rfl) (fun K hK => ?_)
        obtain ⟨q1, q2, q3⟩ := C15.cel
        go_simp
        have E17 := C15.fin
        refine hK _ _ (hS _ E17.bel) ?_
        clear hK
        refine wpAnyH_done (by kernel_rfl) ?_ _
        refine OnlyN.normal ?_
        gi_wp2
        gi_meet
        exact ⟨_, _, _, _, rfl, E17⟩
      · go_simp
        have C13 := C16.map
        refine hK _ _ (hS _ C13.bel) ?_
        clear hK
        obtain ⟨m13, hm13⟩ : ∃ x, w16.heap.size = x := ⟨_, rfl⟩
        rw [hm13] at C13 ⊢
        generalize w16.alloc (.map #[] 0) = w13 at C13 ⊢
        clear hm13
        refine wpAnyH_one 12 rfl (by kernel_rfl) (by kernel_rfl) (fun K hK => ?_)
        go_simp
        refine (cloneW_any _ D.ws w13 (hrow w13 C13.bel) hwsl).mono ?_
        rintro e w12 ⟨v12, rfl, O12, B12⟩
        obtain ⟨a12, c12, rfl⟩ := own_isSlice O12
        have C12 := C13.clone O12 B12
        refine hK _ _ (hS _ C12.bel) ?_
        clear hK
        have s14 := hS w12 C12.bel
        refine wpAnyH_do 14 21 rfl rfl (by kernel_rfl) (by kernel_rfl) (by kernel_rfl) (fun _ _ _ _ _ h => h) (by kernel_rfl) (fun W hS => by (obtain ⟨s1, s2, s3⟩ := hS); go_simp; try with_reducible rfl) s14 ?_
        simp only [List.setIfInBounds_toArray, List.set_cons_succ, List.set_cons_zero]
        refine wpAnyH_one 15 rfl (by kernel_rfl) (by kernel_rfl) (fun K hK => ?_)
        go_simp
        have C15 := C12.pl
        change Cst w (w12.alloc (.cells #[.int .i64 D.timeout, .int .i64 D.tick, .slice a12 D.ws.length c12, .map (some m13)] 98)) _ _ _ _ _ at C15
        refine hK _ _ (hS _ C15.bel) ?_
        clear hK
        obtain ⟨m15, hm15⟩ : ∃ x, w12.heap.size = x := ⟨_, rfl⟩
        rw [hm15] at C15 ⊢
        generalize w12.alloc (.cells #[.int .i64 D.timeout, .int .i64 D.tick, .slice a12 D.ws.length c12, .map (some m13)] 98) = w15 at C15 ⊢
        clear hm15
        refine wpAnyH_one 17 rfl (by kernel_rfl) (by kernel_rfl) (fun K hK => ?_)
        obtain ⟨q1, q2, q3⟩ := C15.cel
        go_simp
        have E17 := C15.fin
        refine hK _ _ (hS _ E17.bel) ?_
        clear hK
        refine wpAnyH_done (by kernel_rfl) ?_ _
        refine OnlyN.normal ?_
        gi_wp2
        gi_meet
        exact ⟨_, _, _, _, rfl, E17⟩
  case rest =>
  rename World => w1
  obtain ⟨cb, c, mb2, wv2, rfl, hC⟩ := hcut
  have HC := Lib.hid hC
  clear hmm q0 q1 q2 hwsl hrow hS hC
  gi_wp2_with (refine ⟨trivial, ?_⟩; gi_at_call 53; refine (each_in p _ _).mono ?_; rintro e w' ⟨rfl, rfl⟩)
  have b1 := Boxed.new w1 31 (.pointer (some ⟨p, 0, none⟩))
  have B1 := (Below.refl w1.heap.size w1).alloc (Nat.le_refl _) (.cells #[.pointer (some ⟨p, 0, none⟩)] 31)
  have hs1 : (w1.alloc (.cells #[.pointer (some ⟨p, 0, none⟩)] 31)).heap.size = w1.heap.size + 1 := World.size_alloc _ _
  generalize w1.alloc (.cells #[.pointer (some ⟨p, 0, none⟩)] 31) = W0 at *
  have B0 : Below w.heap.size w W0 := bel HC.out.bel B1
  have hcbl : cb < w1.heap.size := (Array.getElem?_eq_some_iff.1 HC.out.bx).1
  have hmbl : mb2 < w1.heap.size := HC.out.map.lt
  have hlo := HC.out.lo
  have hcb0 : W0.heap[cb]? = some (.cells #[.pointer (some ⟨c, 0, none⟩)] 31 (0, 0)) := (B1.block cb hcbl).trans HC.out.bx
  have hown0 : ownAt cb W0 = none := by unfold ownAt; simp [World.cell?, hcb0, Value.ownBlock]
  have hC0 : CpX w.heap.size W0 D c mb2 wv2 BV AV (fun _ => none) [] (fun _ => 0) (fun _ => .slice none 0 0) [] :=
    ⟨(B1.block c (Array.getElem?_eq_some_iff.1 HC.out.blk).1).trans HC.out.blk, own_below HC.out.row B1, HC.out.map.kept (B1.block mb2 hmbl), fun _ _ => rfl, (fun _ h => by cases h), (fun _ h => by cases h), (fun _ h => by cases h), (fun _ h => by cases h), hlo.2.1, hlo.2.2⟩
  have hsz0 := HC.out.bel.size
  have hOwn : OwnFrom W0.heap.size (fun (pre : List Int) W => ((∃ F ks B TV, CpX w.heap.size W D c mb2 wv2 BV AV F ks B TV pre) ∧ W.heap[cb]? = some (.cells #[.pointer (some ⟨c, 0, none⟩)] 31 (0, 0))) ∧ Boxed W w1.heap.size 31 (.pointer (some ⟨p, 0, none⟩)) ∧ Below w.heap.size w W ∧ W0.heap.size ≤ W.heap.size) := fun pre W W' row ⟨⟨⟨F, ks, B, TV, h⟩, h2⟩, h3, h4, h5⟩ hg hr => by
    have hkeep : ∀ b, (∃ o : Obj, W.heap[b]? = some o ∧ o.isCells = true) → W'.heap[b]? = W.heap[b]? := fun b ⟨o, ho, hc⟩ => hg.block b (Array.getElem?_eq_some_iff.1 ho).1 (fun e => by
      obtain ⟨_, o', ho', hc'⟩ := hr b e.symm
      rw [ho] at ho'
      cases ho'
      rw [hc] at hc'
      cases hc')
    refine ⟨⟨⟨F, ks, B, TV, h.kept (fun b _ ho => hkeep b ho) (hg.block mb2 h.map.lt (fun e => by have := (hr mb2 e.symm).1; omega))⟩, (hkeep cb ⟨_, h2, rfl⟩).trans h2⟩, (hkeep _ ⟨_, h3, rfl⟩).trans h3, h4.grown hg h4.size (fun r e => by have := (hr r e).1; omega), Nat.le_trans h5 hg.size⟩
  refine wpIn_rangeFunc_E rfl (by omega) (gf := 76) (lb := #[.pointer (some ⟨w1.heap.size, 0, none⟩)]) rfl trivial (enters_of Try.func76 (by kernel_rfl) rfl)
    (each_stops (5 - 1) (by omega) w1.heap.size cb (w1.heap.size + 1) (fun k => k = mb2) W0 (HH.out.later B0) b1.cell (by omega) (by omega) (by omega) (by omega)
      (fun b hb => by have := hb.elim (HH.out.xl b) (HH.out.rl b); omega) (fun b hb => by omega) hown0)
    (fun h k => h.trans k) (fun W l o o' hl ho hc _ => KeepO.put (by omega) (by omega) ho hc) (Below.refl _ _) (fun _ => rfl)
    (fun pre W => ((∃ F ks B TV, CpX w.heap.size W D c mb2 wv2 BV AV F ks B TV pre) ∧ W.heap[cb]? = some (.cells #[.pointer (some ⟨c, 0, none⟩)] 31 (0, 0))) ∧ Boxed W w1.heap.size 31 (.pointer (some ⟨p, 0, none⟩)) ∧ Below w.heap.size w W ∧ W0.heap.size ≤ W.heap.size)
    (fun _ _ _ => False) hOwn (fun c _ _ _ _ h _ _ => h) (fun pre x W W' row h hg hr => h)
    ⟨⟨⟨_, _, _, _, hC0⟩, hcb0⟩, b1, B0, Nat.le_refl _⟩
    ?frame ?assign ?body ?done ?stop
  case assign =>
    intro l x W K hK
    gi_wp2
    exact hK
  case body =>
    rintro l pre x W ⟨⟨⟨F2, ks2, B2, TV2, hCp⟩, hcbx⟩, hb1, hB, hWs⟩ ⟨hx, hpre⟩
    have hP := HH.out.later hB
    obtain ⟨e, he⟩ := (hP.ok.mem x).1 (List.mem_of_getElem? hx)
    have hxp : x ∉ pre := fun hm => by
      rw [hpre] at hm
      obtain ⟨j, hj, hjx⟩ := List.mem_iff_getElem.1 hm
      rw [List.length_take] at hj
      rw [List.getElem_take] at hjx
      obtain ⟨hpl2, hpx⟩ := List.getElem?_eq_some_iff.1 hx
      have := List.pairwise_iff_getElem.1 hP.ok.ord j pre.length (by omega) hpl2 (by omega)
      omega
    have e0 := hP.e he 0 _ rfl
    have e1 := hP.e he 1 _ rfl
    have e2 := hP.e he 2 _ rfl
    have e3 := hP.e he 3 _ rfl
    have e4 := hP.e he 4 _ rfl
    have e5 := hP.e he 5 _ rfl
    have e6 := hP.e he 6 _ rfl
    have e7 := hP.e he 7 _ rfl
    have hTr := (hP.tr x e he).1
    obtain ⟨ta, tc, hT⟩ := own_isSlice hTr
    obtain ⟨ba, bc, hBv, _⟩ := (hP.bd x e he).1.1.opened
    obtain ⟨aa, ac, hAv, _⟩ := (hP.bd x e he).2.1.opened
    have hbkW := hP.xl _ (hP.en x e he).2.2
    rw [hT] at e1 hTr
    rw [hBv] at e0
    rw [hAv] at e7
    obtain ⟨n, hn⟩ : ∃ n, e.tries.length = n := ⟨_, rfl⟩
    have hnm : n ≤ 1000000000 := by rw [← hn]; exact HTL.out x e he
    obtain ⟨bl, hbl⟩ : ∃ n, e.body.length = n := ⟨_, rfl⟩
    obtain ⟨al, hal⟩ : ∃ n, e.ans.body.length = n := ⟨_, rfl⟩
    obtain ⟨bk, hbk⟩ : ∃ n, Bk x = n := ⟨_, rfl⟩
    rw [hn] at e1 hTr
    rw [hbl] at e0
    rw [hal] at e7
    rw [hbk] at e0 e1 e2 e3 e4 e5 e6 e7 hbkW ⊢
    have HCP := Lib.hid hCp
    have HE := Lib.hid he
    have HN := Lib.hid hn
    have HTR := Lib.hid hTr
    have HT := Lib.hid hT
    have HBV := Lib.hid hBv
    have HAV := Lib.hid hAv
    have HBL := Lib.hid hbl
    have HAL := Lib.hid hal
    clear hP hCp he hn hTr hT hBv hAv hbl hal hbk hx hpre
    gi_upto_region 6 with fail
    have BA := (Below.refl W.heap.size W).alloc (Nat.le_refl _) (.cells #[.slice ba bl bc, .slice ta n tc, .bool e.lost, .bool e.done, .int .i64 e.ans.task, .int .i64 e.ans.worker, .int .i64 e.ans.tr, .slice aa al ac] 103)
    have hob := World.alloc_heap_new W (.cells #[.slice ba bl bc, .slice ta n tc, .bool e.lost, .bool e.done, .int .i64 e.ans.task, .int .i64 e.ans.worker, .int .i64 e.ans.tr, .slice aa al ac] 103)
    have hsA : (W.alloc (.cells #[.slice ba bl bc, .slice ta n tc, .bool e.lost, .bool e.done, .int .i64 e.ans.task, .int .i64 e.ans.worker, .int .i64 e.ans.tr, .slice aa al ac] 103)).heap.size = W.heap.size + 1 := World.size_alloc _ _
    have e1 := (BA.cell (p := ⟨bk, 1, none⟩) hbkW).trans e1
    clear e0 e2 e3 e4 e5 e6 e7
    generalize W.alloc (.cells #[.slice ba bl bc, .slice ta n tc, .bool e.lost, .bool e.done, .int .i64 e.ans.task, .int .i64 e.ans.worker, .int .i64 e.ans.tr, .slice aa al ac] 103) = W5 at *
    obtain ⟨ob, hobe⟩ : ∃ b, W.heap.size = b := ⟨_, rfl⟩
    have HBA := Lib.hid BA
    have HOBE := Lib.hid hobe
    rw [hobe] at hob hsA hbkW ⊢
    clear BA hobe
    have o1 : W5.cell? ⟨ob, 1, none⟩ = some (.slice ta n tc) := by simp [World.cell?, hob]
    have of : W5.frozen? ⟨ob, 1, none⟩ = false := by simp [World.frozen?, hob]
    have hmk : ∀ W : World, (Instr.makeSlice 101 (.int .i64 (n : Int)) (.int .i64 (n : Int))).run Try.prog W = .ok (.slice (some ⟨W.heap.size, 0, none⟩) n n) (W.alloc (.cells (madeCells #[.int .i64 0, .int .i64 0] (n * 2)) 112)) := fun W => by
      obtain ⟨i, hi, hz, hsz, hby⟩ := info_parts (show (Try.prog.info? 112).map (fun i => (i.zero, i.size, i.bytes)) = some (some (.agg #[.int .i64 0, .int .i64 0]), 2, 16) by kernel_rfl)
      have h := run_make (P := Try.prog) W 101 112 i _ Try.underlying101 hi hz .i64 .i64 (n : Int) (n : Int) (by omega) (Int.le_refl _) (by rw [hby]; omega) (by omega)
      rw [hsz, Int.toNat_natCast] at h
      simpa [Value.cells] using h
    gi_upto_region 7 with fail
    have B6 : Below ob W5 ((W5.setCell ⟨ob, 1, none⟩ (.slice (some ⟨ob + 1, 0, none⟩) n n)).alloc (.cells (madeCells #[.int .i64 0, .int .i64 0] (n * 2)) 112)) :=
      ((Below.refl ob W5).setCell (p := ⟨ob, 1, none⟩) (Nat.le_refl _) _).alloc (by rw [World.size_setCell]; omega) _
    have htb := World.alloc_heap_new (W5.setCell ⟨ob, 1, none⟩ (.slice (some ⟨ob + 1, 0, none⟩) n n)) (.cells (madeCells #[.int .i64 0, .int .i64 0] (n * 2)) 112)
    have hob6 : ((W5.setCell ⟨ob, 1, none⟩ (.slice (some ⟨ob + 1, 0, none⟩) n n)).alloc (.cells (madeCells #[.int .i64 0, .int .i64 0] (n * 2)) 112)).heap[ob]? = some (.cells #[.slice ba bl bc, .slice (some ⟨ob + 1, 0, none⟩) n n, .bool e.lost, .bool e.done, .int .i64 e.ans.task, .int .i64 e.ans.worker, .int .i64 e.ans.tr, .slice aa al ac] 103) := by
      rw [Below.heap_alloc _ _ _ (by rw [World.size_setCell]; omega)]
      simp [World.setCell, Array.getElem?_modify, hob]
    have hs6 : ((W5.setCell ⟨ob, 1, none⟩ (.slice (some ⟨ob + 1, 0, none⟩) n n)).alloc (.cells (madeCells #[.int .i64 0, .int .i64 0] (n * 2)) 112)).heap.size = ob + 1 + 1 := by rw [World.size_alloc, World.size_setCell, hsA]
    rw [World.size_setCell, hsA] at htb
    have e1 := (B6.cell (p := ⟨bk, 1, none⟩) hbkW).trans e1
    clear hmk o1 of hob
    generalize (W5.setCell ⟨ob, 1, none⟩ (.slice (some ⟨ob + 1, 0, none⟩) n n)).alloc (.cells (madeCells #[.int .i64 0, .int .i64 0] (n * 2)) 112) = W6 at *
    have HB6 := Lib.hid (show Below W.heap.size W W6 from HBA.out.trans (by rw [HOBE.out]; exact B6))
    have o16 : W6.cell? ⟨ob, 1, none⟩ = some (.slice (some ⟨ob + 1, 0, none⟩) n n) := by simp [World.cell?, hob6]
    have hTr6 := own_below HTR.out HB6.out
    have hlen6 : (madeCells #[.int .i64 0, .int .i64 0] (n * 2)).size = n * 2 := size_madeCells _ _
    refine wpIn_mono (Q := OnlyN _) ?_ OnlyN.imp
    refine wpIn_region_of_any (by kernel_rfl) (noRows_of (by decide)) (fun ⟨_, _, h⟩ => h) ?_
    refine wpAny_of_held (S := fun W => W.cell? ⟨ob, 1, none⟩ = some (.slice (some ⟨ob + 1, 0, none⟩) n n) ∧ W.cell? ⟨bk, 1, none⟩ = some (.slice ta n tc)) _ _ _ _ ?_
    change wpAnyH _ _ _ _ _ _ _ _ W6.drew
    have s0 : W6.drew.cell? ⟨ob, 1, none⟩ = some (.slice (some ⟨ob + 1, 0, none⟩) n n) ∧ W6.drew.cell? ⟨bk, 1, none⟩ = some (.slice ta n tc) := ⟨o16, e1⟩
    refine wpAnyH_do 0 37 rfl rfl (by kernel_rfl) (by kernel_rfl) (by kernel_rfl) (fun _ _ _ _ _ h => h) (by kernel_rfl) (fun W hS => by (obtain ⟨s1, s2⟩ := hS); go_simp; try with_reducible rfl) s0 ?_
    simp only [List.setIfInBounds_toArray, List.set_cons_succ, List.set_cons_zero]
    refine wpAnyH_do 1 38 rfl rfl (by kernel_rfl) (by kernel_rfl) (by kernel_rfl) (fun _ _ _ _ _ h => h) (by kernel_rfl) (fun W hS => by (obtain ⟨s1, s2⟩ := hS); go_simp; try with_reducible rfl) s0 ?_
    simp only [List.setIfInBounds_toArray, List.set_cons_succ, List.set_cons_zero]
    refine wpAnyH_do 2 39 rfl rfl (by kernel_rfl) (by kernel_rfl) (by kernel_rfl) (fun _ _ _ _ _ h => h) (by kernel_rfl) (fun W hS => by (obtain ⟨s1, s2⟩ := hS); go_simp; try with_reducible rfl) s0 ?_
    simp only [List.setIfInBounds_toArray, List.set_cons_succ, List.set_cons_zero]
    refine wpAnyH_do 3 40 rfl rfl (by kernel_rfl) (by kernel_rfl) (by kernel_rfl) (fun _ _ _ _ _ h => h) (by kernel_rfl) (fun W hS => by (obtain ⟨s1, s2⟩ := hS); go_simp; try with_reducible rfl) s0 ?_
    simp only [List.setIfInBounds_toArray, List.set_cons_succ, List.set_cons_zero]
    refine wpAnyH_do 4 41 rfl rfl (by kernel_rfl) (by kernel_rfl) (by kernel_rfl) (fun _ _ _ _ _ h => h) (by kernel_rfl) (fun W hS => by (obtain ⟨s1, s2⟩ := hS); go_simp; try with_reducible rfl) s0 ?_
    simp only [List.setIfInBounds_toArray, List.set_cons_succ, List.set_cons_zero]
    refine wpAnyH_do 5 42 rfl rfl (by kernel_rfl) (by kernel_rfl) (by kernel_rfl) (fun _ _ _ _ _ h => h) (by kernel_rfl) (fun W hS => by (obtain ⟨s1, s2⟩ := hS); go_simp; try with_reducible rfl) s0 ?_
    simp only [List.setIfInBounds_toArray, List.set_cons_succ, List.set_cons_zero]
    have hTrd : W6.drew.ownsRow 0 112 2 (.slice ta n tc) n (tcells e.tries) := hTr6
    have htbd : W6.drew.heap[ob + 1]? = some (.cells (madeCells #[.int .i64 0, .int .i64 0] (n * 2)) 112 (0, 0)) := htb
    refine wpAnyH_one 6 rfl (by kernel_rfl) (by kernel_rfl) (fun K hK => ?_)
    refine opCopyT _ _ rfl Try.underlying101 (by kernel_rfl) rfl rfl hTrd htbd hlen6 (ones_T _) ?_
    intro w7 h7 g7 s7
    have k7 : ∀ b, b < ob + 1 + 1 → b ≠ ob + 1 → w7.heap[b]? = W6.heap[b]? := fun b hb hn => g7.block b (by show b < W6.heap.size; omega) (fun e => hn (by injection e))
    have c7 : ∀ b j u, b < ob + 1 → W6.cell? ⟨b, j, none⟩ = some u → w7.cell? ⟨b, j, none⟩ = some u := fun b j u hb hc => by
      rw [← hc]
      unfold World.cell?
      rw [k7 b (by omega) (by omega)]
    refine hK _ _ ⟨c7 _ _ _ (by omega) o16, c7 _ _ _ (by omega) e1⟩ ?_
    clear hK
    refine wpAnyH_done (by kernel_rfl) ?_ _
    refine OnlyN.normal ?_
    have hB7 : Below W.heap.size W w7 := ⟨g7.os.trans HB6.out.os, g7.tape.trans HB6.out.tape, g7.output.trans HB6.out.output, by have := HB6.out.size; have h2 : W6.drew.heap.size = W6.heap.size := rfl; omega, fun b hb => (k7 b (by have := HOBE.out; omega) (by have := HOBE.out; omega)).trans (HB6.out.block b hb)⟩
    have hmbW : mb2 < W.heap.size := by omega
    have hm7 := HCP.out.map.kept (w' := w7) (hB7.block mb2 hmbW)
    obtain ⟨w8, hup, m8, g8, s8⟩ := hm7.update (P := Try.prog) Try.underlyingPM (by kernel_rfl) x (.pointer (some ⟨ob, 0, none⟩))
    have q3 : w7.cell? ⟨c, 3, none⟩ = some (.map (some mb2)) := by
      have h1 := (hB7.block c (Array.getElem?_eq_some_iff.1 HCP.out.blk).1).trans HCP.out.blk
      unfold plO at h1
      simp [World.cell?, h1]
    have qc : w7.cell? ⟨cb, 0, none⟩ = some (.pointer (some ⟨c, 0, none⟩)) := by
      have h1 := (hB7.block cb (Array.getElem?_eq_some_iff.1 hcbx).1).trans hcbx
      simp [World.cell?, h1]
    have H7 := Lib.hid (And.intro h7 (And.intro hB7 (And.intro m8 (And.intro g8 s8))))
    have HK7 := Lib.hid k7
    have HS7 := Lib.hid s7
    clear s0 s7 h7 g7 k7 c7 hTrd htbd hTr6 htb e1 o16 B6 hm7 m8 g8 hB7
    gi_wp2
    obtain ⟨h7, hB7, m8, g8, s8⟩ := H7.out
    have hs7 : w7.heap.size = ob + 1 + 1 := HS7.out.trans hs6
    have hobW := HOBE.out
    have hk8 : ∀ b, b ≠ mb2 → b < w7.heap.size → w8.heap[b]? = w7.heap[b]? := fun b hn hl => g8.block b hl (fun e => hn (by injection e))
    have hk : ∀ b, b < W.heap.size → b ≠ mb2 → w8.heap[b]? = W.heap[b]? := fun b hb hn => (hk8 b hn (by omega)).trans (hB7.block b hb)
    have hcbm : cb ≠ mb2 := fun e => by
      obtain ⟨arr, clock, hmb, _⟩ := HCP.out.map.ex
      rw [e, hmb] at hcbx
      cases hcbx
    have hcbW : cb < W.heap.size := (Array.getElem?_eq_some_iff.1 hcbx).1
    have hob8 : w8.heap[ob]? = some (enO e (BV x) (.slice (some ⟨ob + 1, 0, none⟩) n n) (AV x)) := by
      rw [hk8 ob (by omega) (by omega), HK7.out ob (by omega) (by omega), hob6, HBV.out, HBL.out, HAV.out, HAL.out]
      rfl
    have htv : w8.ownsRow W.heap.size 112 2 (.slice (some ⟨ob + 1, 0, none⟩) n n) e.tries.length (tcells e.tries) := by
      have htl : (tcells e.tries).length = n * 2 := by rw [flat_lenT, HN.out]
      rw [HN.out]
      refine ⟨htl, .inr ⟨ob + 1, n, _, rfl, by omega, (hk8 (ob + 1) (by omega) (by omega)).trans h7, Nat.le_refl _, by unfold maxLen; omega, by simp [htl], ?_⟩⟩
      rw [← htl]
      simp
    refine ⟨⟨by omega, fun k o hB2 ho _ => (hk k (Array.getElem?_eq_some_iff.1 ho).1 (by omega)).trans ho⟩, KeepO.of_same (by omega) (fun k hl hX => hk k hl hX) ?_,
      ⟨⟨_, _, _, _, HCP.out.snoc hxp HE.out (by have := hB.size; exact this) hk m8 hob8 (by omega) htv⟩, (hk cb hcbW hcbm).trans hcbx⟩, (hk _ hb1.lt (by omega)).trans hb1, ?_, by omega⟩
    · unfold ownAt World.cell?
      rw [hk cb hcbW hcbm]
    · exact ⟨g8.os.trans (hB7.os.trans hB.os), g8.tape.trans (hB7.tape.trans hB.tape), g8.output.trans (hB7.output.trans hB.output), by have := hB.size; omega, fun b hb => (hk b (by have := hB.size; omega) (by omega)).trans (hB.block b hb)⟩
  case done =>
    rintro E xs W hD rfl ⟨⟨⟨F2, ks2, B2, TV2, hCp⟩, hcbx⟩, hb1, hB, hWs⟩ hK
    have hcv : W.cell? ⟨cb, 0, none⟩ = some (.pointer (some ⟨c, 0, none⟩)) := by simp [World.cell?, hcbx]
    have HCP := Lib.hid hCp
    clear hCp
    gi_wp2
    refine ⟨by simp, .inl ⟨_, _, rfl, run_takeDeferred hK, _, results_tmp rfl _ _ _, ?_⟩⟩
    have hne : ∀ b, (∃ o : Obj, W.heap[b]? = some o ∧ o.isCells = true) → b ≠ E := fun b ⟨o, ho, hc⟩ e => by
      rw [e, hK] at ho
      cases ho
      cases hc
    have hC' := HCP.out.kept (W' := W.putObj E (.deferred none)) (fun b _ ho => World.putObj_heap_other (hne b ho)) (World.putObj_heap_other (by omega))
    have hB' : Below w.heap.size w (W.putObj E (.deferred none)) := hB.trans (belowK_b (w := w) (Nat.le_refl _) W E _ _ (by omega) hK rfl rfl)
    exact ⟨c, _, rfl, ⟨_, _, _, _, _, _, _, _, hC'.whole HH.out (Nat.le_refl _) hB'⟩, fun b hb => hb.1, hB'⟩
  case stop =>
    rintro D c pre W hD h hK
    exact h.elim
end
end Go.Proofs.Ytfdacckkdjpjhaa
