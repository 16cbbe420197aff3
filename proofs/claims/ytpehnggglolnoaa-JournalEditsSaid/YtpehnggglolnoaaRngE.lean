/- Ranging over a function whose elements lead to memory: with each element goes a fact of it in the world in which it is handed over. -/
import Derived.Test.YtpehnggglolnoaaLibIn
import Derived.Test.YtpehnggglolnoaaStp
namespace Go.Proofs.Ytpehnggglolnoaa
open Go.RowKit Go.Shelf

/-- The sequence g hands its elements, each with its fact E, to any yield that carries J on; S: what they are when it has come to its end. -/
def SeqE {α : Type} (F : Fence) (n : Nat) (P : Program) (g : Nat) (lb : Array Value) (encs : α → Array Value) (E : List α → α → World → Prop) (Kp : World → World → Prop) (S : List α → Prop) (w : World) : Prop :=
  ∀ (l : Nat) (J Jx : List α → World → Prop) (W : World), Below w.heap.size w W → AbidesFrom W.heap.size J → AbidesFrom W.heap.size Jx →
    (∀ pre x W1, J pre W1 → E pre x W1 → YieldAt F (n - 1) P l (encs x) W1 fun e W' =>
      (e = .returned (.bool true) ∧ J (pre ++ [x]) W' ∧ Kp W1 W') ∨ (e = .returned (.bool false) ∧ Jx (pre ++ [x]) W')) →
    J [] W → CallsIn F n P g (#[.func (.yield l) #[] #[]] ++ lb) W fun e W' => (∃ v, e = .returned v) ∧ ((∃ xs, S xs ∧ J xs W') ∨ ∃ pre, Jx pre W')

/-- A row stays when a block grows that is no row. -/
theorem own_stays {w w' : World} {base : Nat} {e : TypeId} {size : Nat} {v : Value} {n : Nat} {xs : List Value} {row : Option Nat} (h : w.ownsRow base e size v n xs) (hg : w.grownBy w' row) (hrow : ∀ r, row = some r → ∃ o : Obj, w.heap[r]? = some o ∧ o.isCells = false) : w'.ownsRow base e size v n xs := by
  obtain ⟨hl, h | ⟨g, cap, cur, rfl, hb, hk, hn, hc, hs, ht⟩⟩ := h
  · exact ⟨hl, .inl h⟩
  · refine ⟨hl, .inr ⟨g, cap, cur, rfl, hb, (hg.block g (Array.getElem?_eq_some_iff.1 hk).1 (fun e => ?_)).trans hk, hn, hc, hs, ht⟩⟩
    obtain ⟨o, ho, hi⟩ := hrow g e.symm
    rw [hk] at ho
    cases ho
    cases hi

theorem own_ne {w : World} {base : Nat} {e : TypeId} {size : Nat} {v : Value} {n : Nat} {xs : List Value} (h : w.ownsRow base e size v n xs) {k : Nat} (hk : k < base) : v.ownBlock ≠ some k := by
  obtain ⟨_, ⟨rfl, _⟩ | ⟨g, cap, cur, rfl, hb, _⟩⟩ := h
  · simp [Value.ownBlock]
  · simp only [Value.ownBlock, ne_eq, Option.some.injEq]
    omega
/-- A row stays when another row grows, when a box of another type is set. -/
theorem own_beside {w w' : World} {base base' : Nat} {e e' : TypeId} {size size' : Nat} {v v' : Value} {n n' : Nat} {xs xs' : List Value} (h : w.ownsRow base e size v n xs) (h' : w.ownsRow base' e' size' v' n' xs') (hne : e ≠ e') (hg : w.grownBy w' v'.ownBlock) : w'.ownsRow base e size v n xs := by
  refine h.kept hg ?_
  rcases hq : v.ownBlock with _ | g
  · exact .inl rfl
  · exact .inr fun e1 => own_types h h' hne g hq e1.symm
theorem own_unboxed {w : World} {base : Nat} {e t : TypeId} {size : Nat} {v u : Value} {n B : Nat} {xs : List Value} (h : w.ownsRow base e size v n xs) (hb : Boxed w B t u) (hne : t ≠ e) (y : Value) : (w.setCell ⟨B, 0, none⟩ y).ownsRow base e size v n xs :=
  h.kept (grownBy_setCell' w B y) (.inr (hb.not_row hne h).symm)
/-- The loop's record, and the block for its deferred calls ahead of it. -/
structure Book (W : World) (D : Nat) (r : Loop) : Prop where
  lrec : W.heap[D + 1]? = some (.loop r)
  dput : W.heap[D]? = some (.deferred (some []))
section
variable {W W' : World} {D : Nat} {r : Loop}
theorem Book.lt (h : Book W D r) : D + 1 < W.heap.size := (Array.getElem?_eq_some_iff.1 h.lrec).1
theorem Book.turn (h : Book W D r) (r' : Loop) : Book (W.putObj (D + 1) (.loop r')) D r' :=
  ⟨World.putObj_heap_same h.lt, (World.putObj_heap_other (by omega)).trans h.dput⟩
theorem Book.from (h : Book W D r) (hk : KeepsFrom D W W') : Book W' D r := ⟨hk.same _ _ (by omega) h.lrec rfl, hk.same _ _ (Nat.le_refl _) h.dput rfl⟩
theorem Book.grown (h : Book W D r) {row : Option Nat} (hg : W.grownBy W' row) (hr : ∀ j, row = some j → ∃ o : Obj, W.heap[j]? = some o ∧ o.isWalk = true) : Book W' D r :=
  ⟨(grownBy_keeps hg hr h.lrec rfl).trans h.lrec, (grownBy_keeps hg hr h.dput rfl).trans h.dput⟩
end

theorem wpIn_rangeFunc_E {F : Fence} {n : Nat} {P : Program} {α : Type} {g : Operand} {ps : Array Tmp} {assign body : Code} {Q : Exit → Act → World → Prop} {a : Act} {w : World}
    (hro : F.round = none) (h1 : 1 ≤ n) {gf : Nat} {lb : Array Value} (hg : a.eval g = .func (.func gf) #[] lb) (hFg : F.fn gf) (eg : ∀ args w, (callFunc gf args).run P w = .ok (.enter gf args) w)
    {encs : α → Array Value} {E : List α → α → World → Prop} {Kp : World → World → Prop} {S : List α → Prop} {w0 : World} (hseq : SeqE F (n - 1) P gf lb encs E Kp S w0)
    (hKt : ∀ {A B C : World}, Kp A B → Kp B C → Kp A C) (hKb : ∀ (W : World) (l : Nat) (o o' : Obj), w.heap.size ≤ l → W.heap[l]? = some o → o.isCells = false → o.isWalk = false → Kp W (W.putObj l o'))
    (hb0 : Below w0.heap.size w0 w) (hps : ∀ x, (encs x).size = ps.size)
    (I : List α → World → Prop) (Ix : Code → List α → World → Prop) (hI : OwnFrom w.heap.size I) (hIx : ∀ c, OwnFrom w.heap.size (Ix c)) (hE : ∀ pre, OwnFrom w.heap.size (E pre)) (h0 : I [] w) (a₁ : α → Act)
    (hassign : ∀ (l : Nat) (x : α) (W : World) (K : Act → World → Prop), K (a₁ x) W →
      assign.wpIn (F.inRound l) (n - 1 - 1) P (Exit.then K (fun _ _ _ => False)) { tmps := (ps.zip (encs x)).foldl (fun t (p, v) => t.setIfInBounds p v) a.tmps, defers := [] } W)
    (hbody : ∀ (l : Nat) (pre : List α) (x : α) (W : World), I pre W → E pre x W → body.wpIn (F.inRound l) (n - 1 - 1) P (ownPostG w.heap.size Kp I Ix (pre ++ [x]) W) (a₁ x) W)
    (hdone : ∀ (D : Nat) (xs : List α) (W : World), w.heap.size ≤ D → S xs → I xs W → W.heap[D]? = some (.deferred (some [])) → Q .normal { a with defers := { target := .collected D, args := #[] } :: a.defers } W)
    (hstop : ∀ (D : Nat) (c : Code) (pre : List α) (W : World), w.heap.size ≤ D → Ix c pre W → W.heap[D]? = some (.deferred (some [])) → c.wpIn F n P Q { a with defers := { target := .collected D, args := #[] } :: a.defers } W) :
    (Code.rangeFunc g ps assign body).wpIn F n P Q a w := by
  refine wpIn_rangeFunc fun fn hfn => ?_
  rw [hro]
  obtain ⟨R, hR⟩ : ∃ R : LoopState → Option Code → Loop, ∀ st pe, R st pe = { state := st, pending := pe, fn := fn, tmps := a.tmps, params := ps, assign := assign, body := body, defers := w.heap.size } := ⟨_, fun _ _ => rfl⟩
  have hbook : Book ((w.alloc (.deferred (some []))).alloc (.loop (R .ready none))) w.heap.size (R .ready none) :=
    ⟨by have := World.alloc_heap_new (w.alloc (.deferred (some []))) (.loop (R .ready none)); rwa [World.size_alloc] at this, (Below.heap_alloc _ _ _ (by simp)).trans (World.alloc_heap_new w _)⟩
  have hstart := hI.alloc (.loop (R .ready none)) (hI.alloc (.deferred (some [])) h0)
  have hlow : Below w0.heap.size w0 ((w.alloc (.deferred (some []))).alloc (.loop (R .ready none))) :=
    hb0.trans ((((Below.refl _ w).alloc (Nat.le_refl _) _).alloc (by simp) _).mono hb0.size)
  have hent := run_enterLoop_outer (P := P) (w := w) fn a.tmps ps assign body
  rw [← hR] at hent
  have hsz : w.heap.size + 2 ≤ ((w.alloc (.deferred (some []))).alloc (.loop (R .ready none))).heap.size := by simp
  generalize (w.alloc (.deferred (some []))).alloc (.loop (R .ready none)) = W1 at *
  have hwalk : ∀ {A : World} {row : Option Nat}, (∀ r, row = some r → W1.heap.size ≤ r ∧ ∃ o : Obj, A.heap[r]? = some o ∧ o.isWalk = true) → ∀ r, row = some r → w.heap.size ≤ r ∧ ∃ o : Obj, A.heap[r]? = some o ∧ o.isCells = false := by
    intro A row hr r e
    obtain ⟨hge, o, ho, hw⟩ := hr r e
    exact ⟨by omega, o, ho, Obj.not_cells_of_walk hw⟩
  have hcall := hseq (w.heap.size + 1) (fun pre W => I pre W ∧ Book W w.heap.size (R .ready none)) (fun pre W => ∃ c, Ix c pre W ∧ Book W w.heap.size (R .done (some c))) W1 hlow
    (fun s A B row hs hg' hr => ⟨hI s A B row hs.1 hg' (hwalk hr), hs.2.grown hg' (fun j e => (hr j e).2)⟩)
    (fun s A B row ⟨c, hc, hbk⟩ hg' hr => ⟨c, hIx c s A B row hc hg' (hwalk hr), hbk.grown hg' (fun j e => (hr j e).2)⟩) ?_ ⟨hstart, hbook⟩
  · refine ⟨w.heap.size + 1, [{ target := .collected w.heap.size, args := #[] }], W1, { target := .fn (.func gf) lb, args := #[.func (.yield (w.heap.size + 1)) #[] #[]] }, W1, gf,
      #[.func (.yield (w.heap.size + 1)) #[] #[]] ++ lb, W1, ?_, ?_, ?_, ?_, fun _ => h1, ?_⟩
    · exact hent
    · simp only [resolve, hg]
      simp [go_sem]
    · intro f' hf'
      simp [Target.leads] at hf'
      subst hf'
      exact hFg
    · simp [invoke, go_sem, eg]
    · refine hcall.mono ?_
      rintro e W2 ⟨⟨v, rfl⟩, ⟨xs, hS, hi, hbk⟩ | ⟨pre, c, hi, hbk⟩⟩
      · have hend := run_endLoop (P := P) hbk.lrec (by rw [hR]; simp)
        rw [hR] at hend
        exact ⟨none, _, hend, hdone _ xs _ (Nat.le_refl _) hS (hI.putObj _ hi (by omega) hbk.lrec rfl) ((World.putObj_heap_other (by omega)).trans hbk.dput)⟩
      · have hend := run_endLoop (P := P) hbk.lrec (by rw [hR]; simp)
        rw [hR] at hend
        exact ⟨some c, _, hend, hstop _ c pre _ (Nat.le_refl _) ((hIx c).putObj _ hi (by omega) hbk.lrec rfl) ((World.putObj_heap_other (by omega)).trans hbk.dput)⟩
  · rintro pre x W ⟨hi, hbk⟩ he
    have hy := run_yield (P := P) (args := encs x) hbk.lrec (by rw [hR]; exact hps x)
    rw [hR] at hy
    have hbeg := run_beginRound (P := P) hbk.lrec (by rw [hR])
    refine ⟨fn, _, assign, body, hy, roundIn_of_wpIn hfn (hassign _ x W _ ⟨_, hbeg, ?_⟩)⟩
    have hbusy := hbk.turn { R .ready none with state := .busy }
    have hkp1 : Kp W (W.putObj (w.heap.size + 1) (.loop { R .ready none with state := .busy })) := hKb _ _ _ _ (by omega) hbk.lrec rfl rfl
    have hend : ∀ (jump : Option Code) (W3 : World), KeepsFrom w.heap.size (W.putObj (w.heap.size + 1) (.loop { R .ready none with state := .busy })) W3 →
        Book W3 w.heap.size { R .ready none with state := .busy } ∧ (Instr.endRound (w.heap.size + 1) jump).run P W3 = .ok (.bool jump.isNone) (W3.putObj (w.heap.size + 1) (.loop (R (if jump.isNone then .ready else .done) jump))) := by
      intro jump W3 hk3
      have hb3 := hbusy.from hk3
      refine ⟨hb3, ?_⟩
      have := run_endRound (P := P) jump hb3.lrec
      rw [hR] at this ⊢
      exact this
    refine wpIn_mono (hbody _ pre x _ (hI.putObj _ hi (by omega) hbk.lrec rfl) ((hE pre).putObj _ he (by omega) hbk.lrec rfl)) ?_
    have hleave : ∀ (c : Code) (W3 : World), KeepsFrom w.heap.size (W.putObj (w.heap.size + 1) (.loop { R .ready none with state := .busy })) W3 → Ix c (pre ++ [x]) W3 →
        ∃ v W4, (Instr.endRound (w.heap.size + 1) (some c)).run P W3 = .ok v W4 ∧ ((Ending.returned v = .returned (.bool true) ∧ (I (pre ++ [x]) W4 ∧ Book W4 w.heap.size (R .ready none)) ∧ Kp W W4) ∨
          (Ending.returned v = .returned (.bool false) ∧ ∃ c, Ix c (pre ++ [x]) W4 ∧ Book W4 w.heap.size (R .done (some c)))) := by
      intro c W3 hk3 hi3
      obtain ⟨hb3, hrun⟩ := hend (some c) W3 hk3
      exact ⟨_, _, hrun, .inr ⟨rfl, c, (hIx c).putObj _ hi3 (by omega) hb3.lrec rfl, hb3.turn _⟩⟩
    rintro e a3 W3 hp
    cases e with
    | normal =>
      obtain ⟨hk3, hkp3, hi3⟩ := hp
      obtain ⟨hb3, hrun⟩ := hend none W3 hk3
      exact ⟨_, _, hrun, .inl ⟨rfl, ⟨hI.putObj _ hi3 (by omega) hb3.lrec rfl, hb3.turn _⟩, hKt (hKt hkp1 hkp3) (hKb _ _ _ _ (by omega) hb3.lrec rfl rfl)⟩⟩
    | ret => exact hleave _ _ hp.1 hp.2
    | exit id => exact hleave _ _ hp.1 hp.2
    | goto t => exact hleave _ _ hp.1 hp.2
    | panic ch => exact hp.elim
    | outgrown => exact hp.elim
end Go.Proofs.Ytpehnggglolnoaa
