/- Package pool: Open. -/
import Derived.Test.YtfdacckkdjpjhaaPlJ
import Derived.Sort.QuietIn
import Derived.Sort.CutIn
namespace Go.Proofs.Ytfdacckkdjpjhaa
open Go.RowKit Go.Shelf

attribute [local go_sem] Oper.semAt_some

/-- The open ones of some tasks. -/
def opn (D : Pl) (l : List Int) : List Int := l.filter fun k => match D.ts k with
  | some e => !e.done
  | none => false
theorem opn_snoc (D : Pl) (l : List Int) (x : Int) (e : En) (h : D.ts x = some e) : opn D (l ++ [x]) = opn D l ++ if e.done then [] else [x] := by
  unfold opn
  rw [List.filter_append]
  congr 1
  simp only [List.filter_cons, h, List.filter_nil]
  cases e.done <;> rfl
theorem opn_len (D : Pl) (l : List Int) : (opn D l).length ≤ l.length := List.length_filter_le _ _
/-- A row's block as its base. -/
theorem own_low {w : World} {base : Nat} {e : TypeId} {size : Nat} {v : Value} {n : Nat} {xs : List Value} (h : w.ownsRow base e size v n xs) (hb : base ≤ w.heap.size) :
    ∃ lo, base ≤ lo ∧ lo ≤ w.heap.size ∧ (∀ m, m ≤ w.heap.size → (∀ k, v.ownBlock = some k → m ≤ k) → m ≤ lo) ∧ w.ownsRow lo e size v n xs := by
  obtain ⟨hl, ⟨rfl, h⟩ | ⟨g, cap, cur, rfl, hge, hg, hr⟩⟩ := h
  · exact ⟨_, hb, Nat.le_refl _, fun m hm _ => hm, hl, .inl ⟨rfl, h⟩⟩
  · exact ⟨g, hge, Nat.le_of_lt (Array.getElem?_eq_some_iff.1 hg).1, fun m _ h => h g rfl, hl, .inr ⟨g, cap, cur, rfl, Nat.le_refl _, hg, hr⟩⟩
section
variable {p : Nat} {X R : Nat → Prop} {D : Pl}
set_option maxRecDepth 100000 in
set_option maxHeartbeats 4000000 in
theorem open_any (w : World) (h : PAt w p X R D) :
    Calls Try.prog 30 #[.pointer (some ⟨p, 0, none⟩)] w fun e w' => ∃ v, e = .returned v ∧ w'.ownsRow w.heap.size 3 1 v (opn D D.ids).length ((opn D D.ids).map (Value.int .i64)) ∧ Below w.heap.size w w' := by
  obtain ⟨mb, wv, F, ks, Bk, TV, BV, AV, h⟩ := h
  refine (callsIn_wide (n := 5)).1 ?_
  refine callsIn_of_wp_marks Try.func30 rfl trivial ?_ rfl
  simp only [Try.ntmps30, List.size_toArray, List.length_cons, List.length_nil, Nat.reduceAdd, Nat.reduceSub, Array.replicate_succ, Array.replicate_zero, List.push_toArray, List.append_toArray, List.nil_append, List.cons_append]
  have HH := Lib.hid h
  have hpl := h.lt
  clear h
  gi_wp2_with (refine ⟨trivial, ?_⟩; gi_at_call 53; refine (each_in p _ _).mono ?_; rintro e w' ⟨rfl, rfl⟩)
  have b0 := Boxed.new w 22 (.slice none 0 0)
  have b1 := Boxed.new (w.alloc (.cells #[.slice none 0 0] 22)) 31 (.pointer (some ⟨p, 0, none⟩))
  have B0 : Below w.heap.size w ((w.alloc (.cells #[.slice none 0 0] 22)).alloc (.cells #[.pointer (some ⟨p, 0, none⟩)] 31)) :=
    ((Below.refl _ w).alloc (Nat.le_refl _) _).alloc (by simp) _
  have b0 := b0.alloc (.cells #[.pointer (some ⟨p, 0, none⟩)] 31)
  have hs0 : ((w.alloc (.cells #[.slice none 0 0] 22)).alloc (.cells #[.pointer (some ⟨p, 0, none⟩)] 31)).heap.size = w.heap.size + 2 := by simp
  generalize (w.alloc (.cells #[.slice none 0 0] 22)).alloc (.cells #[.pointer (some ⟨p, 0, none⟩)] 31) = W0 at *
  simp only [World.size_alloc] at b0 b1 ⊢
  have hown0 : ownAt w.heap.size W0 = none := by unfold ownAt; rw [b0.cell]; rfl
  have hnil0 : W0.ownsRow (w.heap.size + 2) 3 1 (.slice none 0 0) (opn D []).length ((opn D []).map (Value.int .i64)) := ⟨rfl, .inl ⟨rfl, rfl⟩⟩
  refine wpIn_rangeFunc_E rfl (by omega) (gf := 76) (lb := #[.pointer (some ⟨w.heap.size + 1, 0, none⟩)]) rfl trivial (enters_of Try.func76 (by kernel_rfl) rfl)
    (each_stops (5 - 1) (by omega) (w.heap.size + 1) w.heap.size (w.heap.size + 2) (fun k => k = w.heap.size) W0 (HH.out.later B0) b1.cell (by omega) (by omega) (by omega) (by omega)
      (fun b hb => by have := hb.elim (HH.out.xl b) (HH.out.rl b); omega) (fun b hb => by omega) hown0)
    (fun h k => h.trans k) (fun W l o o' hl ho hc _ => KeepO.put (by omega) (by omega) ho hc) (Below.refl _ _) (fun _ => rfl)
    (fun pre W => ((∃ v, Boxed W w.heap.size 22 v ∧ W.ownsRow (w.heap.size + 2) 3 1 v (opn D pre).length ((opn D pre).map (Value.int .i64))) ∧ Boxed W (w.heap.size + 1) 31 (.pointer (some ⟨p, 0, none⟩))) ∧ Below w.heap.size w W)
    (fun _ _ _ => False)
    (OwnFrom.and (OwnFrom.and (fun pre W W' row ⟨v, hv, hL⟩ hg hr => ⟨v, boxed_own (β := Unit) w.heap.size 22 (fun _ => v) () W W' row hv hg (fun r e => (hr r e).2), own_stays hL hg (fun r e => (hr r e).2)⟩) (Own.from (boxed_own (β := List Int) (w.heap.size + 1) 31 (fun _ => .pointer (some ⟨p, 0, none⟩))) _)) (ownFrom_below (Nat.le_refl _) (by omega)))
    (fun c _ _ _ _ h _ _ => h) (fun pre x W W' row h hg hr => h)
    ⟨⟨⟨_, b0, hnil0⟩, b1⟩, B0⟩
    (fun x => { tmps := #[.pointer (some ⟨p, 0, none⟩), undef, .slice none 0 0, .pointer (some ⟨w.heap.size, 0, none⟩), .int .i64 x, .pointer (some ⟨Bk x, 0, none⟩), .pointer (some ⟨p, 0, none⟩), .func (.func 76) #[] #[.pointer (some ⟨w.heap.size + 1, 0, none⟩)], .int .i64 x, .pointer (some ⟨Bk x, 0, none⟩), undef, undef, undef, undef, undef, undef, undef, undef, undef, undef], defers := [] }) ?assign ?body ?done ?stop
  case assign =>
    intro l x W K hK
    gi_wp2
    exact hK
  case body =>
    rintro l pre x W ⟨⟨⟨v, hv, hL⟩, h1⟩, hB⟩ ⟨hx, hpre⟩
    have hz := h1.lt
    have hP := HH.out.later hB
    obtain ⟨e, he⟩ := (hP.ok.mem x).1 (List.mem_of_getElem? hx)
    have e3 := hP.e he 3 _ rfl
    have hsn := opn_snoc D pre x e he
    have hcv := hv.cell
    have hsz := hB.size
    have hpn : (opn D pre).length ≤ 1024 := by
      have h1 := opn_len D pre
      have h2 := hP.ok.many
      have h3 := (List.getElem?_eq_some_iff.1 hx).1
      omega
    obtain ⟨n, hn⟩ : ∃ n, (opn D pre).length = n := ⟨_, rfl⟩
    rw [hn] at hL hpn
    clear hP he hx hpre
    cases hd : e.done
    · rw [hd] at e3 hsn
      obtain ⟨lo, hlo1, hlo2, hlo3, hL2⟩ := own_low hL (by omega)
      have hone := Rv.one W (.int .i64 x) 3
      have hne := own_ne hL2 (k := w.heap.size) (by omega)
      gi_wp2_with (gi_at_builtin; refine wpListIn_app _ rfl _ _ rfl Try.elI lo v n _ rfl (hL2.alloc _) (.slice (some ⟨W.heap.size, 0, none⟩) 1 1) 1 [.int .i64 x] rfl hone rfl (ones1 _ rfl) (by omega) (by simp; omega) ?_; intro v' w2 hown' hgrow _; obtain ⟨g', cap', rfl⟩ := ownsRow_succ hown'; have hv2 : Boxed w2 w.heap.size 22 v := (Boxed.alloc hv _).kept hgrow hne.symm; have hc2 := hv2.cell; have hf2 := hv2.frozen)
      have hsn : opn D (pre ++ [x]) = opn D pre ++ [x] := hsn
      have hne1 := own_ne hL2 (k := w.heap.size + 1) (by omega)
      obtain ⟨_, hv2', _, hk2, hb2⟩ := Boxed.appended hv (by decide) (own_base hL (base' := w.heap.size) (by omega)) hsz (Nat.le_refl _) (own_base hown' (base' := w.heap.size) (by omega)) hgrow
      have h1k : (w2.setCell ⟨w.heap.size, 0, none⟩ (.slice (some ⟨g', 0, none⟩) (n + 1) cap')).heap[w.heap.size + 1]? = W.heap[w.heap.size + 1]? := by
        rw [Below.heap_setCell _ _ _ _ (by simp), hgrow.block _ (by simp; omega) hne1.symm, Below.heap_alloc _ _ _ (by omega)]
      have hrow := hown'.kept (grownBy_setCell' w2 w.heap.size (.slice (some ⟨g', 0, none⟩) (n + 1) cap')) (.inr (own_ne hown' (by omega)))
      have hoW : ownAt w.heap.size W = v.ownBlock := by unfold ownAt; rw [hcv]; rfl
      have hoW2 : ownAt w.heap.size (w2.setCell ⟨w.heap.size, 0, none⟩ (.slice (some ⟨g', 0, none⟩) (n + 1) cap')) = some g' := by unfold ownAt; rw [hv2'.cell]; rfl
      have hgl := (hown'.lt g' rfl).1
      refine ⟨hk2.from _, ⟨hb2.size, fun m hm ho => ⟨fun k hk => ?_, fun k hk hkx _ => ?_⟩⟩, ⟨⟨_, hv2', ?_⟩, h1k.trans h1⟩, hB.trans hb2⟩
      · rw [hoW2] at hk
        cases hk
        rw [hoW] at ho
        have := hlo3 m hm ho
        omega
      · rw [hoW] at ho
        rw [Below.heap_setCell _ _ _ _ hkx, hgrow.block _ (by simp; omega) (fun q => by have := ho k q.symm; omega), Below.heap_alloc _ _ _ (by omega)]
      · rw [hsn, List.length_append, List.length_singleton, hn, List.map_append]
        exact own_base hrow (by omega)
    · rw [hd] at e3 hsn
      gi_wp2
      have hsn : opn D (pre ++ [x]) = opn D pre := hsn.trans (List.append_nil _)
      refine ⟨KeepsFrom.refl _ _, KeepO.refl _ _ _ _, ⟨⟨v, hv, ?_⟩, h1⟩, hB⟩
      rw [hsn, hn]
      exact hL
  case done =>
    rintro E xs W hD rfl ⟨⟨⟨v, hv, hL⟩, h1⟩, hB⟩ hK
    have hcv := hv.cell
    gi_wp2
    refine ⟨by simp, .inl ⟨_, _, rfl, run_takeDeferred hK, _, results_tmp rfl _ _ _, ?_⟩⟩
    have hO := own_stays hL (grownBy_putObj' W E (.deferred none)) (fun r e => by cases e; exact ⟨_, hK, rfl⟩)
    exact ⟨v, rfl, own_base hO (by omega), hB.trans (belowK_b (w := w) (Nat.le_refl _) W E _ _ (by omega) hK rfl rfl)⟩
  case stop =>
    rintro D c pre W hD h hK
    exact h.elim
end
end Go.Proofs.Ytfdacckkdjpjhaa
