/- Several texts in one: PlK PlL. -/
import Derived.Test.YtfdacckkdjpjhaaPlJ
import Derived.Sort.QuietIn
import Derived.Sort.CutIn
/- Package pool: Open. -/
namespace Go.Proofs.Ytfdacckkdjpjhaa
open Go.RowKit Go.Shelf

attribute [local go_sem] Oper.semAt_some

/-- The open ones of some tasks. -/
def opn (D : Pl) (l : List Int) : List Int := l.filter fun k => match D.ts k with
  | some e => !e.done
  | none => false
theorem opn_snoc (D : Pl) (l : List Int) (x : Int) (e : En) (h : D.ts x = some e) : opn D (l ++ [x]) = opn D l ++ if e.done then [] else [x] := by
  unfold opn
  rw [List.filter_append]
  congr 1
  simp only [List.filter_cons, h, List.filter_nil]
  cases e.done <;> rfl
theorem opn_len (D : Pl) (l : List Int) : (opn D l).length ≤ l.length := List.length_filter_le _ _
/-- A row's block as its base. -/
theorem own_low {w : World} {base : Nat} {e : TypeId} {size : Nat} {v : Value} {n : Nat} {xs : List Value} (h : w.ownsRow base e size v n xs) (hb : base ≤ w.heap.size) :
    ∃ lo, base ≤ lo ∧ lo ≤ w.heap.size ∧ (∀ m, m ≤ w.heap.size → (∀ k, v.ownBlock = some k → m ≤ k) → m ≤ lo) ∧ w.ownsRow lo e size v n xs := by
  obtain ⟨hl, ⟨rfl, h⟩ | ⟨g, cap, cur, rfl, hge, hg, hr⟩⟩ := h
  · exact ⟨_, hb, Nat.le_refl _, fun m hm _ => hm, hl, .inl ⟨rfl, h⟩⟩
  · exact ⟨g, hge, Nat.le_of_lt (Array.getElem?_eq_some_iff.1 hg).1, fun m _ h => h g rfl, hl, .inr ⟨g, cap, cur, rfl, Nat.le_refl _, hg, hr⟩⟩
section
variable {p : Nat} {X R : Nat → Prop} {D : Pl}
set_option maxRecDepth 100000 in
set_option maxHeartbeats 4000000 in
theorem open_any (w : World) (h : PAt w p X R D) :
    Calls Try.prog 30 #[.pointer (some ⟨p, 0, none⟩)] w fun e w' => ∃ v, e = .returned v ∧ w'.ownsRow w.heap.size 3 1 v (opn D D.ids).length ((opn D D.ids).map (Value.int .i64)) ∧ Below w.heap.size w w' := by
  obtain ⟨mb, wv, F, ks, Bk, TV, BV, AV, h⟩ := h
  refine (callsIn_wide (n := 5)).1 ?_
  refine callsIn_of_wp_marks Try.func30 rfl trivial ?_ rfl
  simp only [Try.ntmps30, List.size_toArray, List.length_cons, List.length_nil, Nat.reduceAdd, Nat.reduceSub, Array.replicate_succ, Array.replicate_zero, List.push_toArray, List.append_toArray, List.nil_append, List.cons_append]
  have HH := Lib.hid h
  have hpl := h.lt
  clear h
  gi_wp2_with (refine ⟨trivial, ?_⟩; gi_at_call 53; refine (each_in p _ _).mono ?_; rintro e w' ⟨rfl, rfl⟩)
  have b0 := Boxed.new w 22 (.slice none 0 0)
  have b1 := Boxed.new (w.alloc (.cells #[.slice none 0 0] 22)) 31 (.pointer (some ⟨p, 0, none⟩))
  have B0 : Below w.heap.size w ((w.alloc (.cells #[.slice none 0 0] 22)).alloc (.cells #[.pointer (some ⟨p, 0, none⟩)] 31)) :=
    ((Below.refl _ w).alloc (Nat.le_refl _) _).alloc (by simp) _
  have b0 := b0.alloc (.cells #[.pointer (some ⟨p, 0, none⟩)] 31)
  have hs0 : ((w.alloc (.cells #[.slice none 0 0] 22)).alloc (.cells #[.pointer (some ⟨p, 0, none⟩)] 31)).heap.size = w.heap.size + 2 := by simp
  generalize (w.alloc (.cells #[.slice none 0 0] 22)).alloc (.cells #[.pointer (some ⟨p, 0, none⟩)] 31) = W0 at *
  simp only [World.size_alloc] at b0 b1 ⊢
  have hown0 : ownAt w.heap.size W0 = none := by unfold ownAt; rw [b0.cell]; rfl
  have hnil0 : W0.ownsRow (w.heap.size + 2) 3 1 (.slice none 0 0) (opn D []).length ((opn D []).map (Value.int .i64)) := ⟨rfl, .inl ⟨rfl, rfl⟩⟩
  refine wpIn_rangeFunc_E rfl (by omega) (gf := 76) (lb := #[.pointer (some ⟨w.heap.size + 1, 0, none⟩)]) rfl trivial (enters_of Try.func76 (by kernel_rfl) rfl)
    (each_stops (5 - 1) (by omega) (w.heap.size + 1) w.heap.size (w.heap.size + 2) (fun k => k = w.heap.size) W0 (HH.out.later B0) b1.cell (by omega) (by omega) (by omega) (by omega)
      (fun b hb => by have := hb.elim (HH.out.xl b) (HH.out.rl b); omega) (fun b hb => by omega) hown0)
    (fun h k => h.trans k) (fun W l o o' hl ho hc _ => KeepO.put (by omega) (by omega) ho hc) (Below.refl _ _) (fun _ => rfl)
    (fun pre W => ((∃ v, Boxed W w.heap.size 22 v ∧ W.ownsRow (w.heap.size + 2) 3 1 v (opn D pre).length ((opn D pre).map (Value.int .i64))) ∧ Boxed W (w.heap.size + 1) 31 (.pointer (some ⟨p, 0, none⟩))) ∧ Below w.heap.size w W)
    (fun _ _ _ => False)
    (OwnFrom.and (OwnFrom.and (fun pre W W' row ⟨v, hv, hL⟩ hg hr => ⟨v, boxed_own (β := Unit) w.heap.size 22 (fun _ => v) () W W' row hv hg (fun r e => (hr r e).2), own_stays hL hg (fun r e => (hr r e).2)⟩) (Own.from (boxed_own (β := List Int) (w.heap.size + 1) 31 (fun _ => .pointer (some ⟨p, 0, none⟩))) _)) (ownFrom_below (Nat.le_refl _) (by omega)))
    (fun c _ _ _ _ h _ _ => h) (fun pre x W W' row h hg hr => h)
    ⟨⟨⟨_, b0, hnil0⟩, b1⟩, B0⟩
    (fun x => { tmps := #[.pointer (some ⟨p, 0, none⟩), undef, .slice none 0 0, .pointer (some ⟨w.heap.size, 0, none⟩), .int .i64 x, .pointer (some ⟨Bk x, 0, none⟩), .pointer (some ⟨p, 0, none⟩), .func (.func 76) #[] #[.pointer (some ⟨w.heap.size + 1, 0, none⟩)], .int .i64 x, .pointer (some ⟨Bk x, 0, none⟩), undef, undef, undef, undef, undef, undef, undef, undef, undef, undef], defers := [] }) ?assign ?body ?done ?stop
  case assign =>
    intro l x W K hK
    gi_wp2
    exact hK
  case body =>
    rintro l pre x W ⟨⟨⟨v, hv, hL⟩, h1⟩, hB⟩ ⟨hx, hpre⟩
    have hz := h1.lt
    have hP := HH.out.later hB
    obtain ⟨e, he⟩ := (hP.ok.mem x).1 (List.mem_of_getElem? hx)
    have e3 := hP.e he 3 _ rfl
    have hsn := opn_snoc D pre x e he
    have hcv := hv.cell
    have hsz := hB.size
    have hpn : (opn D pre).length ≤ 1024 := by
      have h1 := opn_len D pre
      have h2 := hP.ok.many
      have h3 := (List.getElem?_eq_some_iff.1 hx).1
      omega
    obtain ⟨n, hn⟩ : ∃ n, (opn D pre).length = n := ⟨_, rfl⟩
    rw [hn] at hL hpn
    clear hP he hx hpre
    cases hd : e.done
    · rw [hd] at e3 hsn
      obtain ⟨lo, hlo1, hlo2, hlo3, hL2⟩ := own_low hL (by omega)
      have hone := Rv.one W (.int .i64 x) 3
      have hne := own_ne hL2 (k := w.heap.size) (by omega)
      gi_wp2_with (gi_at_builtin; refine wpListIn_app _ rfl _ _ rfl Try.elI lo v n _ rfl (hL2.alloc _) (.slice (some ⟨W.heap.size, 0, none⟩) 1 1) 1 [.int .i64 x] rfl hone rfl (ones1 _ rfl) (by omega) (by simp; omega) ?_; intro v' w2 hown' hgrow _; obtain ⟨g', cap', rfl⟩ := ownsRow_succ hown'; have hv2 : Boxed w2 w.heap.size 22 v := (Boxed.alloc hv _).kept hgrow hne.symm; have hc2 := hv2.cell; have hf2 := hv2.frozen)
      have hsn : opn D (pre ++ [x]) = opn D pre ++ [x] := hsn
      have hne1 := own_ne hL2 (k := w.heap.size + 1) (by omega)
      obtain ⟨_, hv2', _, hk2, hb2⟩ := Boxed.appended hv (by decide) (own_base hL (base' := w.heap.size) (by omega)) hsz (Nat.le_refl _) (own_base hown' (base' := w.heap.size) (by omega)) hgrow
      have h1k : (w2.setCell ⟨w.heap.size, 0, none⟩ (.slice (some ⟨g', 0, none⟩) (n + 1) cap')).heap[w.heap.size + 1]? = W.heap[w.heap.size + 1]? := by
        rw [Below.heap_setCell _ _ _ _ (by simp), hgrow.block _ (by simp; omega) hne1.symm, Below.heap_alloc _ _ _ (by omega)]
      have hrow := hown'.kept (grownBy_setCell' w2 w.heap.size (.slice (some ⟨g', 0, none⟩) (n + 1) cap')) (.inr (own_ne hown' (by omega)))
      have hoW : ownAt w.heap.size W = v.ownBlock := by unfold ownAt; rw [hcv]; rfl
      have hoW2 : ownAt w.heap.size (w2.setCell ⟨w.heap.size, 0, none⟩ (.slice (some ⟨g', 0, none⟩) (n + 1) cap')) = some g' := by unfold ownAt; rw [hv2'.cell]; rfl
      have hgl := (hown'.lt g' rfl).1
      refine ⟨hk2.from _, ⟨hb2.size, fun m hm ho => ⟨fun k hk => ?_, fun k hk hkx _ => ?_⟩⟩, ⟨⟨_, hv2', ?_⟩, h1k.trans h1⟩, hB.trans hb2⟩
      · rw [hoW2] at hk
        cases hk
        rw [hoW] at ho
        have := hlo3 m hm ho
        omega
      · rw [hoW] at ho
        rw [Below.heap_setCell _ _ _ _ hkx, hgrow.block _ (by simp; omega) (fun q => by have := ho k q.symm; omega), Below.heap_alloc _ _ _ (by omega)]
      · rw [hsn, List.length_append, List.length_singleton, hn, List.map_append]
        exact own_base hrow (by omega)
    · rw [hd] at e3 hsn
      gi_wp2
      have hsn : opn D (pre ++ [x]) = opn D pre := hsn.trans (List.append_nil _)
      refine ⟨KeepsFrom.refl _ _, KeepO.refl _ _ _ _, ⟨⟨v, hv, ?_⟩, h1⟩, hB⟩
      rw [hsn, hn]
      exact hL
  case done =>
    rintro E xs W hD rfl ⟨⟨⟨v, hv, hL⟩, h1⟩, hB⟩ hK
    have hcv := hv.cell
    gi_wp2
    refine ⟨by simp, .inl ⟨_, _, rfl, run_takeDeferred hK, _, results_tmp rfl _ _ _, ?_⟩⟩
    have hO := own_stays hL (grownBy_putObj' W E (.deferred none)) (fun r e => by cases e; exact ⟨_, hK, rfl⟩)
    exact ⟨v, rfl, own_base hO (by omega), hB.trans (belowK_b (w := w) (Nat.le_refl _) W E _ _ (by omega) hK rfl rfl)⟩
  case stop =>
    rintro D c pre W hD h hK
    exact h.elim
end
end Go.Proofs.Ytfdacckkdjpjhaa

/- Package pool: Done. -/
namespace Go.Proofs.Ytfdacckkdjpjhaa
open Go.RowKit Go.Shelf

attribute [local go_sem] Oper.semAt_some

theorem Try.infoRp : (Try.prog.info? 44).map (fun i => (i.zero, i.size, i.bytes)) = some (some (.agg #[.int .i64 0, .int .i64 0, .int .i64 0, .slice none 0 0]), 4, 48) := by kernel_rfl
theorem Try.elRp : Elem Try.prog 52 44 (.agg #[.int .i64 0, .int .i64 0, .int .i64 0, .slice none 0 0]) 4 48 := ⟨Try.underlying52, Try.infoRp, rfl, by decide, by decide⟩

/-- The answers of some tasks. -/
def ansOf (D : Pl) (l : List Int) : List Rep := l.filterMap fun k => match D.ts k with
  | some e => if e.done then some e.ans else none
  | none => none
theorem ansOf_snoc (D : Pl) (l : List Int) (x : Int) (e : En) (h : D.ts x = some e) : ansOf D (l ++ [x]) = ansOf D l ++ if e.done then [e.ans] else [] := by
  unfold ansOf
  rw [List.filterMap_append]
  congr 1
  simp only [List.filterMap_cons, h, List.filterMap_nil]
  cases e.done <;> rfl
theorem ansOf_len (D : Pl) (l : List Int) : (ansOf D l).length ≤ l.length := List.length_filterMap_le _ _
def rcells (l : List (Rep × Value)) : List Value := l.flatMap fun x => [.int .i64 x.1.task, .int .i64 x.1.worker, .int .i64 x.1.tr, x.2]
/-- A row of answers, each with its body's slice. -/
structure RepsE (W : World) (lo base : Nat) (v : Value) (xs : List (Rep × Value)) : Prop where
  own : W.ownsRow base 44 4 v xs.length (rcells xs)
  each : ∀ x ∈ xs, W.ownsRow lo 5 1 x.2 x.1.body.length (x.1.body.map vB)
theorem RepsE.stays {W W' : World} {lo base : Nat} {v : Value} {xs : List (Rep × Value)} {row : Option Nat} (h : RepsE W lo base v xs) (hg : W.grownBy W' row) (hrow : ∀ r, row = some r → ∃ o : Obj, W.heap[r]? = some o ∧ o.isCells = false) : RepsE W' lo base v xs :=
  ⟨own_stays h.own hg hrow, fun x hx => own_stays (h.each x hx) hg hrow⟩
def DonePost (w : World) (l : List Rep) (e : Ending) (w' : World) : Prop := ∃ v xs, e = .returned v ∧ xs.map (·.1) = l ∧ RepsE w' w.heap.size w.heap.size v xs ∧ Below w.heap.size w w'
/-- The copy of an answer, after its body is cloned. -/
theorem freshRep (W : World) (a b c : Int) (u : Value) (w2 : World) (h : Below (W.alloc (.cells #[.int .i64 a, .int .i64 b, .int .i64 c, u] 44)).heap.size (W.alloc (.cells #[.int .i64 a, .int .i64 b, .int .i64 c, u] 44)) w2) :
    w2.cell? ⟨W.heap.size, 0, none⟩ = some (.int .i64 a) ∧ w2.cell? ⟨W.heap.size, 1, none⟩ = some (.int .i64 b) ∧ w2.cell? ⟨W.heap.size, 2, none⟩ = some (.int .i64 c) ∧ w2.cell? ⟨W.heap.size, 3, none⟩ = some u ∧ w2.frozen? ⟨W.heap.size, 3, none⟩ = false ∧ W.heap.size < w2.heap.size ∧
      w2.heap[W.heap.size]? = some (.cells #[.int .i64 a, .int .i64 b, .int .i64 c, u] 44) := by
  have h1 := (h.block W.heap.size (by simp)).trans (World.alloc_heap_new W _)
  have h2 := h.size
  simp at h2
  refine ⟨?_, ?_, ?_, ?_, ?_, by omega, h1⟩ <;> simp [World.cell?, World.frozen?, h1]
section
variable {p : Nat} {X R : Nat → Prop} {D : Pl}
set_option maxRecDepth 100000 in
set_option maxHeartbeats 4000000 in
theorem done_any (w : World) (h : PAt w p X R D) :
    Calls Try.prog 22 #[.pointer (some ⟨p, 0, none⟩)] w (DonePost w (ansOf D D.ids)) := by
  obtain ⟨mb, wv, F, ks, Bk, TV, BV, AV, h⟩ := h
  refine (callsIn_wide (n := 5)).1 ?_
  refine callsIn_of_wp_marks Try.func22 rfl trivial ?_ rfl
  simp only [Try.ntmps22, List.size_toArray, List.length_cons, List.length_nil, Nat.reduceAdd, Nat.reduceSub, Array.replicate_succ, Array.replicate_zero, List.push_toArray, List.append_toArray, List.nil_append, List.cons_append]
  have HH := Lib.hid h
  have hpl := h.lt
  clear h
  gi_wp2_with (refine ⟨trivial, ?_⟩; gi_at_call 53; refine (each_in p _ _).mono ?_; rintro e w' ⟨rfl, rfl⟩)
  have b0 := Boxed.new w 52 (.slice none 0 0)
  have b1 := Boxed.new (w.alloc (.cells #[.slice none 0 0] 52)) 31 (.pointer (some ⟨p, 0, none⟩))
  have B0 : Below w.heap.size w ((w.alloc (.cells #[.slice none 0 0] 52)).alloc (.cells #[.pointer (some ⟨p, 0, none⟩)] 31)) :=
    ((Below.refl _ w).alloc (Nat.le_refl _) _).alloc (by simp) _
  have b0 := b0.alloc (.cells #[.pointer (some ⟨p, 0, none⟩)] 31)
  have hs0 : ((w.alloc (.cells #[.slice none 0 0] 52)).alloc (.cells #[.pointer (some ⟨p, 0, none⟩)] 31)).heap.size = w.heap.size + 2 := by simp
  generalize (w.alloc (.cells #[.slice none 0 0] 52)).alloc (.cells #[.pointer (some ⟨p, 0, none⟩)] 31) = W0 at *
  simp only [World.size_alloc] at b0 b1 ⊢
  have hown0 : ownAt w.heap.size W0 = none := by unfold ownAt; rw [b0.cell]; rfl
  have hnil0 : RepsE W0 w.heap.size (w.heap.size + 2) (.slice none 0 0) [] := ⟨⟨rfl, .inl ⟨rfl, rfl⟩⟩, fun x hx => by cases hx⟩
  refine wpIn_rangeFunc_E rfl (by omega) (gf := 76) (lb := #[.pointer (some ⟨w.heap.size + 1, 0, none⟩)]) rfl trivial (enters_of Try.func76 (by kernel_rfl) rfl)
    (each_stops (5 - 1) (by omega) (w.heap.size + 1) w.heap.size (w.heap.size + 2) (fun k => k = w.heap.size) W0 (HH.out.later B0) b1.cell (by omega) (by omega) (by omega) (by omega)
      (fun b hb => by have := hb.elim (HH.out.xl b) (HH.out.rl b); omega) (fun b hb => by omega) hown0)
    (fun h k => h.trans k) (fun W l o o' hl ho hc _ => KeepO.put (by omega) (by omega) ho hc) (Below.refl _ _) (fun _ => rfl)
    (fun pre W => ((∃ v, Boxed W w.heap.size 52 v ∧ ∃ xs, RepsE W w.heap.size (w.heap.size + 2) v xs ∧ xs.map (·.1) = ansOf D pre) ∧ Boxed W (w.heap.size + 1) 31 (.pointer (some ⟨p, 0, none⟩))) ∧ Below w.heap.size w W)
    (fun _ _ _ => False)
    (OwnFrom.and (OwnFrom.and (fun pre W W' row ⟨v, hv, xs, hL, hxs⟩ hg hr => ⟨v, boxed_own (β := Unit) w.heap.size 52 (fun _ => v) () W W' row hv hg (fun r e => (hr r e).2), xs, hL.stays hg (fun r e => (hr r e).2), hxs⟩) (Own.from (boxed_own (β := List Int) (w.heap.size + 1) 31 (fun _ => .pointer (some ⟨p, 0, none⟩))) _)) (ownFrom_below (Nat.le_refl _) (by omega)))
    (fun c _ _ _ _ h _ _ => h) (fun pre x W W' row h hg hr => h)
    ⟨⟨⟨_, b0, [], hnil0, rfl⟩, b1⟩, B0⟩
    (fun x => { tmps := #[.pointer (some ⟨p, 0, none⟩), undef, .slice none 0 0, .pointer (some ⟨w.heap.size, 0, none⟩), undef, .pointer (some ⟨Bk x, 0, none⟩), undef, .pointer (some ⟨p, 0, none⟩), .func (.func 76) #[] #[.pointer (some ⟨w.heap.size + 1, 0, none⟩)], .int .i64 x, .pointer (some ⟨Bk x, 0, none⟩), undef, undef, undef, undef, undef, undef, undef, undef, undef, undef, undef, undef, undef, undef, undef, undef, undef], defers := [] }) ?assign ?body ?done ?stop
  case assign =>
    intro l x W K hK
    gi_wp2
    exact hK
  case body =>
    rintro l pre x W ⟨⟨⟨v, hv, xs, hL, hxs⟩, h1⟩, hB⟩ ⟨hx, hpre⟩
    have hz := h1.lt
    have hP := HH.out.later hB
    obtain ⟨e, he⟩ := (hP.ok.mem x).1 (List.mem_of_getElem? hx)
    have e3 := hP.e he 3 _ rfl
    have hsn := ansOf_snoc D pre x e he
    have hcv := hv.cell
    have hsz := hB.size
    have hpn : xs.length ≤ 1024 := by
      have h0 : xs.length = (ansOf D pre).length := by rw [← hxs, List.length_map]
      have h1 := ansOf_len D pre
      have h2 := hP.ok.many
      have h3 := (List.getElem?_eq_some_iff.1 hx).1
      omega
    have a4 := hP.e he 4 _ rfl
    have a5 := hP.e he 5 _ rfl
    have a6 := hP.e he 6 _ rfl
    have a7 := hP.e he 7 _ rfl
    have hbv := (hP.bd x e he).2.1
    have hbl := (hP.ok.bod x e he).2
    obtain ⟨ao, cap, hav, hcap, _⟩ := hbv.opened
    rw [hav] at a7 hbv
    clear hP he hx hpre hav
    cases hd : e.done
    · rw [hd] at e3 hsn
      gi_wp2
      have hsn : ansOf D (pre ++ [x]) = ansOf D pre := hsn.trans (List.append_nil _)
      refine ⟨KeepsFrom.refl _ _, KeepO.refl _ _ _ _, ⟨⟨v, hv, xs, hL, ?_⟩, h1⟩, hB⟩
      rw [hsn]
      exact hxs
    · rw [hd] at e3 hsn
      have hb1 := hbv.below ((Below.refl W.heap.size W).alloc (Nat.le_refl _) (.cells #[.int .i64 e.ans.task, .int .i64 e.ans.worker, .int .i64 e.ans.tr, .slice ao e.ans.body.length cap] 44))
      have HC := Lib.hid (cloneB_any _ _ _ hb1 (by omega))
      have HFR := Lib.hid (fun w2 => freshRep W e.ans.task e.ans.worker e.ans.tr (.slice ao e.ans.body.length cap) w2)
      gi_upto_region 7 with (refine ⟨trivial, ?_⟩; gi_at_call 49; refine (callsIn_wide.2 HC.out).mono ?_; rintro e1 w2 ⟨v2, rfl, M2⟩; obtain ⟨r0, r1, r2, r3, rf, rl, rh⟩ := HFR.out w2 M2.2; obtain ⟨a2, c2, huv⟩ := own_isSlice M2.1; obtain ⟨u2, hu2⟩ : ∃ u, v2 = u := ⟨_, rfl⟩; rw [hu2] at M2 huv ⊢)
      have O2 := M2.1
      have hb3 : (w2.setCell ⟨W.heap.size, 3, none⟩ (.slice a2 e.ans.body.length c2)).heap[W.heap.size]? = some (.cells #[.int .i64 e.ans.task, .int .i64 e.ans.worker, .int .i64 e.ans.tr, .slice a2 e.ans.body.length c2] 44) := by
        simp [World.setCell, Array.getElem?_modify, rh]
      have B3 : Below W.heap.size W (w2.setCell ⟨W.heap.size, 3, none⟩ (.slice a2 e.ans.body.length c2)) :=
        (((Below.refl _ W).alloc (Nat.le_refl _) _).trans (M2.2.mono (by simp))).setCell (p := ⟨W.heap.size, 3, none⟩) (Nat.le_refl _) _
      rw [List.length_map] at O2
      have hx3 := own_same O2 (w' := w2.setCell ⟨W.heap.size, 3, none⟩ (.slice a2 e.ans.body.length c2)) (fun b hb => Below.heap_setCell _ _ _ _ (fun q => by have := (O2.lt b hb).1; simp at this; change b = W.heap.size at q; omega))
      have hx3 := own_base hx3 (base' := w.heap.size) (by simp; omega)
      rw [huv, List.length_map] at hx3
      have hsz3 := B3.size
      generalize w2.setCell ⟨W.heap.size, 3, none⟩ (.slice a2 e.ans.body.length c2) = w3 at *
      have hbs : ∀ b, b < W.heap.size → w3.heap[b]? = W.heap[b]? := fun b hb => B3.block b hb
      have hL3 : RepsE w3 w.heap.size (w.heap.size + 2) v xs := ⟨own_same hL.own (fun b hb => hbs b (hL.own.lt b hb).2), fun y hy => own_same (hL.each y hy) (fun b hb => hbs b ((hL.each y hy).lt b hb).2)⟩
      have hv3 : Boxed w3 w.heap.size 52 v := (hbs _ (by omega)).trans hv
      have h13 : Boxed w3 (w.heap.size + 1) 31 (.pointer (some ⟨p, 0, none⟩)) := (hbs _ hz).trans h1
      have hcv3 := hv3.cell
      have q0 : w3.cell? ⟨W.heap.size, 0, none⟩ = some (.int .i64 e.ans.task) := by simp [World.cell?, hb3]
      have q1 : w3.cell? ⟨W.heap.size, 1, none⟩ = some (.int .i64 e.ans.worker) := by simp [World.cell?, hb3]
      have q2 : w3.cell? ⟨W.heap.size, 2, none⟩ = some (.int .i64 e.ans.tr) := by simp [World.cell?, hb3]
      have q3 : w3.cell? ⟨W.heap.size, 3, none⟩ = some (.slice a2 e.ans.body.length c2) := by simp [World.cell?, hb3]
      obtain ⟨n, hn⟩ : ∃ n, xs.length = n := ⟨_, rfl⟩
      have hlo := own_low hL3.own (by omega)
      obtain ⟨lo, hlo1, hlo2, hlo3, hL2⟩ := hlo
      rw [hn] at hL2 hpn
      have hone := Rv.lit w3 [.int .i64 e.ans.task, .int .i64 e.ans.worker, .int .i64 e.ans.tr, .slice a2 e.ans.body.length c2] 44 1 (by decide)
      have hne := own_ne hL2 (k := w.heap.size) (by omega)
      clear hcv e3 a4 a5 a6 a7 hb1 HC HFR r0 r1 r2 r3 rf rl rh hb3
      gi_wp2_with (gi_at_builtin; refine wpListIn_app _ rfl _ _ rfl Try.elRp lo v n _ rfl (hL2.alloc _) (.slice (some ⟨w3.heap.size, 0, none⟩) 1 1) 1 [.int .i64 e.ans.task, .int .i64 e.ans.worker, .int .i64 e.ans.tr, .slice a2 e.ans.body.length c2] rfl hone rfl (by intro u hu; simp at hu; rcases hu with rfl | rfl | rfl | rfl <;> rfl) (by omega) (by simp; omega) ?_; intro v' w4 hown' hgrow _; obtain ⟨g', cap', rfl⟩ := ownsRow_succ hown'; have hv2 : Boxed w4 w.heap.size 52 v := (Boxed.alloc hv3 _).kept hgrow hne.symm; have hc2 := hv2.cell; have hf2 := hv2.frozen)
      have hsn : ansOf D (pre ++ [x]) = ansOf D pre ++ [e.ans] := hsn
      have hne1 := own_ne hL2 (k := w.heap.size + 1) (by omega)
      have hw3 : w.heap.size + 2 ≤ w3.heap.size := by omega
      obtain ⟨_, hv2', _, hk2, hb2⟩ := Boxed.appended hv3 (by decide) (own_base hL3.own (base' := w.heap.size) (by omega)) (by omega) (Nat.le_refl _) (own_base hown' (base' := w.heap.size) (by omega)) hgrow
      have hke : ∀ k, k < W.heap.size → k ≠ w.heap.size → v.ownBlock ≠ some k → (w4.setCell ⟨w.heap.size, 0, none⟩ (.slice (some ⟨g', 0, none⟩) (n + 1) cap')).heap[k]? = W.heap[k]? := fun k hk hkx hko => by
        rw [Below.heap_setCell _ _ _ _ hkx, hgrow.block _ (by simp; omega) (fun q => hko q.symm), Below.heap_alloc _ _ _ (by omega), hbs k hk]
      have h1k := hke (w.heap.size + 1) hz (by omega) hne1
      have hrow := hown'.kept (grownBy_setCell' w4 w.heap.size (.slice (some ⟨g', 0, none⟩) (n + 1) cap')) (.inr (own_ne hown' (by omega)))
      have hoW : ownAt w.heap.size W = v.ownBlock := by unfold ownAt; rw [hv.cell]; rfl
      have hoW2 : ownAt w.heap.size (w4.setCell ⟨w.heap.size, 0, none⟩ (.slice (some ⟨g', 0, none⟩) (n + 1) cap')) = some g' := by unfold ownAt; rw [hv2'.cell]; rfl
      have hgl := (hown'.lt g' rfl).1
      have hee : ∀ {z : Value} {m : Nat} {us : List Value}, w3.ownsRow w.heap.size 5 1 z m us → (w4.setCell ⟨w.heap.size, 0, none⟩ (.slice (some ⟨g', 0, none⟩) (n + 1) cap')).ownsRow w.heap.size 5 1 z m us := fun h =>
        own_unboxed (own_beside (h.alloc _) (hL2.alloc _) (by decide) hgrow) hv2 (by decide) _
      have hks : KeepsOthers W w3 := ⟨hsz3, fun k o hk _ => (hbs k (Array.getElem?_eq_some_iff.1 hk).1).trans hk⟩
      refine ⟨(hks.trans hk2).from _, ⟨Nat.le_trans hsz3 hb2.size, fun m hm ho => ⟨fun k hk => ?_, fun k hk hkx _ => ?_⟩⟩, ⟨⟨_, hv2', xs ++ [(e.ans, .slice a2 e.ans.body.length c2)], ⟨?_, fun y hy => ?_⟩, ?_⟩, h1k.trans h1⟩, (hB.trans (B3.mono (by omega))).trans hb2⟩
      · rw [hoW2] at hk
        cases hk
        rw [hoW] at ho
        have := hlo3 m (by omega) ho
        omega
      · rw [hoW] at ho
        exact hke k (by omega) hkx (fun q => by have := ho k q; omega)
      · rw [List.length_append, List.length_singleton, hn, show rcells (xs ++ [(e.ans, .slice a2 e.ans.body.length c2)]) = rcells xs ++ [.int .i64 e.ans.task, .int .i64 e.ans.worker, .int .i64 e.ans.tr, .slice a2 e.ans.body.length c2] from by unfold rcells; rw [List.flatMap_append]; rfl]
        exact own_base hrow (by omega)
      · rcases List.mem_append.1 hy with q | q
        · exact hee (hL3.each y q)
        · rw [List.mem_singleton.1 q]
          exact hee hx3
      · rw [hsn, List.map_append, hxs]
        rfl
  case done =>
    rintro E xs W hD rfl ⟨⟨⟨v, hv, xs, hL, hxs⟩, h1⟩, hB⟩ hK
    have hcv := hv.cell
    gi_wp2
    refine ⟨by simp, .inl ⟨_, _, rfl, run_takeDeferred hK, _, results_tmp rfl _ _ _, ?_⟩⟩
    have hO := hL.stays (grownBy_putObj' W E (.deferred none)) (fun r e => by cases e; exact ⟨_, hK, rfl⟩)
    exact ⟨v, xs, rfl, hxs, ⟨own_base hO.own (by omega), hO.each⟩, hB.trans (belowK_b (w := w) (Nat.le_refl _) W E _ _ (by omega) hK rfl rfl)⟩
  case stop =>
    rintro D c pre W hD h hK
    exact h.elim
end
end Go.Proofs.Ytfdacckkdjpjhaa
