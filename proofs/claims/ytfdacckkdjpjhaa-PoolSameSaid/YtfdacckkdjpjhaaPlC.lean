/- Package pool: what a write leaves; Revive, Die. -/
import Derived.Test.YtfdacckkdjpjhaaPlB
namespace Go.Proofs.Ytfdacckkdjpjhaa
open Go.RowKit

/-- The type of a block's cells. -/
def kindOf : Obj → Option TypeId
  | .cells _ t _ => some t
  | _ => none
def kindAt (w : World) (b : Nat) : Option (Option TypeId) := (w.heap[b]?).map kindOf
theorem own_kind {w : World} {base size n : Nat} {e : TypeId} {v : Value} {xs : List Value} (h : w.ownsRow base e size v n xs) {g : Nat} (hg : v.ownBlock = some g) : kindAt w g = some (some e) := by
  obtain ⟨_, ⟨rfl, _⟩ | ⟨g1, cap, cur, rfl, _, hk, _⟩⟩ := h
  · cases hg
  · cases hg
    unfold kindAt
    rw [hk]
    rfl
section
variable {w w' : World} {p mb : Nat} {wv : Value} {F : Int → Option Value} {ks : List Int} {B : Int → Nat} {TV BV AV : Int → Value} {X R X' Z : Nat → Prop} {D : Pl}
theorem PX.kp (h : PX w p mb wv F ks B TV BV AV X R D) : kindAt w p = some (some 98) := by unfold kindAt; rw [h.blk]; rfl
theorem PX.km (h : PX w p mb wv F ks B TV BV AV X R D) : kindAt w mb = some none := by
  obtain ⟨arr, clock, hb, _⟩ := h.map.ex
  unfold kindAt
  rw [hb]
  rfl
theorem PX.kw (h : PX w p mb wv F ks B TV BV AV X R D) {g : Nat} (hg : wv.ownBlock = some g) : kindAt w g = some (some 105) := own_kind h.row hg
theorem PX.ke (h : PX w p mb wv F ks B TV BV AV X R D) {k : Int} {e : En} (hk : D.ts k = some e) : kindAt w (B k) = some (some 103) := by unfold kindAt; rw [(h.en k e hk).2.1]; rfl
theorem PX.kt (h : PX w p mb wv F ks B TV BV AV X R D) {k : Int} {e : En} (hk : D.ts k = some e) {g : Nat} (hg : (TV k).ownBlock = some g) : kindAt w g = some (some 112) := own_kind (h.tr k e hk).1 hg
theorem kind_ne {w : World} {a b : Nat} {x y : Option TypeId} (ha : kindAt w a = some x) (hb : kindAt w b = some y) (hn : x ≠ y) : a ≠ b := fun e => by
  rw [e, hb] at ha
  exact hn (Option.some.inj ha).symm
/-- The pool's own cells turned. -/
theorem PX.turnP (h : PX w p mb wv F ks B TV BV AV X R D) {D' : Pl} (hb : w'.heap[p]? = some (plO D' wv mb)) (hs : w.heap.size ≤ w'.heap.size) (ho : ∀ b, b < w.heap.size → b ≠ p → w'.heap[b]? = w.heap[b]?) (hw : D'.ws = D.ws) (ht : D'.ts = D.ts) (ok : POk D') : PX w' p mb wv F ks B TV BV AV X R D' := by
  have hX := fun b (hb : X b) (hn : b ≠ p) => ho b (h.xl b hb) hn
  have hR := fun b (hb : R b) => ho b (h.rl b hb) (fun e => h.sep p h.xp (by rw [← e]; exact hb))
  refine ⟨hb, h.map.kept (hX mb h.xm (kind_ne h.km h.kp (by decide))), by rw [hw]; exact own_same h.row (fun b hb => hX b (h.xw b hb) (kind_ne (h.kw hb) h.kp (by decide))), by rw [ht]; exact h.emp,
    fun k e hk => ?_, fun k e hk => ?_, fun k e hk => ?_, by rw [ht]; exact h.inj, by rw [ht]; exact h.tsep, h.xp, h.xm, h.xw, h.sep, fun b hb => Nat.lt_of_lt_of_le (h.xl b hb) hs, fun b hb => Nat.lt_of_lt_of_le (h.rl b hb) hs, ok⟩
  all_goals rw [ht] at hk
  · exact ⟨(h.en k e hk).1, (hX _ (h.en k e hk).2.2 (kind_ne (h.ke hk) h.kp (by decide))).trans (h.en k e hk).2.1, (h.en k e hk).2.2⟩
  · exact ⟨own_same (h.tr k e hk).1 (fun b hb => hX b ((h.tr k e hk).2 b hb) (kind_ne (h.kt hk hb) h.kp (by decide))), (h.tr k e hk).2⟩
  · exact ⟨⟨rvSame (h.bd k e hk).1.1 (fun g _ hg => hR g ((h.bd k e hk).1.2 g hg)), (h.bd k e hk).1.2⟩, rvSame (h.bd k e hk).2.1 (fun g _ hg => hR g ((h.bd k e hk).2.2 g hg)), (h.bd k e hk).2.2⟩
/-- The tick is set. -/
theorem PX.tick (h : PX w p mb wv F ks B TV BV AV X R D) (t : Int) (ht : D.tick ≤ t ∧ t ≤ 1099511627776) : PX (w.setCell ⟨p, 1, none⟩ (.int .i64 t)) p mb wv F ks B TV BV AV X R { D with tick := t } := by
  have hb := h.blk
  unfold plO at hb
  have ok := h.ok
  refine h.turnP (D' := { D with tick := t }) ?_ (by rw [World.size_setCell]; exact Nat.le_refl _) (fun b _ hn => Below.heap_setCell _ _ _ _ hn) rfl rfl
    ⟨ok.ord, ok.mem, ok.idr, ok.many, ok.tmo, ⟨by have := ok.tck; show 0 ≤ t; omega, ht.2⟩, ok.wsl, ok.bod, fun k e hk x hx => ⟨(ok.tri k e hk x hx).1, (ok.tri k e hk x hx).2.1, by have := (ok.tri k e hk x hx).2.2; show x.2 ≤ t; omega⟩, ok.has⟩
  unfold plO
  simp [World.setCell, Array.getElem?_modify, hb]
theorem wcells_set (l : List Wk) : ∀ (i j : Nat) (v v' : Wk) (u : Value), l[i]? = some v → j < 3 → v.cells.set j u = v'.cells → (wcells l).set (i * 3 + j) u = wcells (l.set i v') := by
  induction l with
  | nil => intro i j v v' u h; cases h
  | cons x l ih =>
    intro i j v v' u h hj he
    have hl : x.cells.length = 3 := rfl
    cases i with
    | zero =>
      cases h
      show (x.cells ++ wcells l).set (0 * 3 + j) u = v'.cells ++ wcells l
      rw [Nat.zero_mul, Nat.zero_add, List.set_append_left _ _ (by omega), he]
    | succ i =>
      rw [List.getElem?_cons_succ] at h
      show (x.cells ++ wcells l).set ((i + 1) * 3 + j) u = x.cells ++ wcells (l.set i v')
      rw [List.set_append_right _ _ (by omega), hl, show (i + 1) * 3 + j - 3 = i * 3 + j by omega, ih i j v v' u h hj he]
/-- A cell of the workers' row is set. -/
theorem PX.worker (h : PX w p mb wv F ks B TV BV AV X R D) {g n c i j : Nat} (hwv : wv = .slice (some ⟨g, 0, none⟩) n c) {v v' : Wk} {u : Value} (hv : D.ws[i]? = some v) (hj : j < 3) (hu : v.cells.set j u = v'.cells) (ok : POk { D with ws := D.ws.set i v' }) :
    PX (w.setCell ⟨g, i * 3 + j, none⟩ u) p mb wv F ks B TV BV AV X R { D with ws := D.ws.set i v' } := by
  have hg : wv.ownBlock = some g := by rw [hwv]; rfl
  have hs := World.size_setCell w ⟨g, i * 3 + j, none⟩ u
  have ho := fun b (hn : b ≠ g) => Below.heap_setCell w ⟨g, i * 3 + j, none⟩ u b hn
  have hR := fun b (hb : R b) => ho b (fun e => h.sep g (h.xw g hg) (by rw [← e]; exact hb))
  refine ⟨(ho p (kind_ne h.kp (h.kw hg) (by decide))).trans h.blk, h.map.kept (ho mb (kind_ne h.km (h.kw hg) (by decide))), ?_, h.emp,
    fun k e hk => ⟨(h.en k e hk).1, (ho _ (kind_ne (h.ke hk) (h.kw hg) (by decide))).trans (h.en k e hk).2.1, (h.en k e hk).2.2⟩,
    fun k e hk => ⟨own_same (h.tr k e hk).1 (fun b hb => ho b (kind_ne (h.kt hk hb) (h.kw hg) (by decide))), (h.tr k e hk).2⟩,
    fun k e hk => ⟨⟨rvSame (h.bd k e hk).1.1 (fun g _ hg => hR g ((h.bd k e hk).1.2 g hg)), (h.bd k e hk).1.2⟩, rvSame (h.bd k e hk).2.1 (fun g _ hg => hR g ((h.bd k e hk).2.2 g hg)), (h.bd k e hk).2.2⟩,
    h.inj, h.tsep, h.xp, h.xm, h.xw, h.sep, fun b hb => by rw [hs]; exact h.xl b hb, fun b hb => by rw [hs]; exact h.rl b hb, ok⟩
  show World.ownsRow _ 0 _ 3 wv (D.ws.set i v').length (wcells (D.ws.set i v'))
  rw [List.length_set, ← wcells_set D.ws i j v v' u hv hj hu]
  have hr := h.row
  rw [hwv] at hr ⊢
  have e : n = D.ws.length := own_k hr
  subst e
  exact (hr.stored (i * 3 + j) u).1
/-- An entry's block turned. -/
theorem PX.entry (h : PX w p mb wv F ks B TV BV AV X R D) {k : Int} {e e' : En} (hk : D.ts k = some e) (ht : e'.tries = e.tries) (hbd : e'.body = e.body) (ha : e'.ans.body = e.ans.body) (hb : w'.heap[B k]? = some (enO e' (BV k) (TV k) (AV k))) (hs : w'.heap.size = w.heap.size) (ho : ∀ b, b ≠ B k → w'.heap[b]? = w.heap[b]?)
    (ok : POk { D with ts := fun j => if j = k then some e' else D.ts j }) : PX w' p mb wv F ks B TV BV AV X R { D with ts := fun j => if j = k then some e' else D.ts j } := by
  have hX : X (B k) := (h.en k e hk).2.2
  have hR := fun b (hb : R b) => ho b (fun q => h.sep _ hX (by rw [← q]; exact hb))
  have old : ∀ j f, (if j = k then some e' else D.ts j) = some f → ∃ f0, D.ts j = some f0 ∧ f.tries = f0.tries ∧ f.body = f0.body ∧ f.ans.body = f0.ans.body ∧ (j ≠ k → f = f0) := fun j f hf => by
    by_cases q : j = k
    · rw [if_pos q] at hf
      cases hf
      subst q
      exact ⟨e, hk, ht, hbd, ha, fun n => absurd rfl n⟩
    · rw [if_neg q] at hf
      exact ⟨f, hf, rfl, rfl, rfl, fun _ => rfl⟩
  refine ⟨(ho p (kind_ne h.kp (h.ke hk) (by decide))).trans h.blk, h.map.kept (ho mb (kind_ne h.km (h.ke hk) (by decide))), own_same h.row (fun b hb => ho b (kind_ne (h.kw hb) (h.ke hk) (by decide))), fun j hj => ?_,
    fun j f hf => ?_, fun j f hf => ?_, fun j f hf => ?_, fun i j f f' hf hf' q => ?_, fun i j f f' b hf hf' q q' => ?_, h.xp, h.xm, h.xw, h.sep, fun b hb => by rw [hs]; exact h.xl b hb, fun b hb => by rw [hs]; exact h.rl b hb, ok⟩
  · by_cases q : j = k
    · simp [q] at hj
    · simp only [if_neg q] at hj
      exact h.emp j hj
  · obtain ⟨f0, h0, _, _, _, hn⟩ := old j f hf
    obtain ⟨h1, h2, h3⟩ := h.en j f0 h0
    refine ⟨h1, ?_, h3⟩
    by_cases q : j = k
    · subst q
      have : f = e' := by simpa using hf.symm
      rw [this]
      exact hb
    · rw [hn q]
      exact (ho _ (fun q2 => q (h.inj j k f0 e h0 hk q2))).trans h2
  · obtain ⟨f0, h0, h1, _⟩ := old j f hf
    rw [h1]
    exact ⟨own_same (h.tr j f0 h0).1 (fun b hb => ho b (kind_ne (h.kt h0 hb) (h.ke hk) (by decide))), (h.tr j f0 h0).2⟩
  · obtain ⟨f0, h0, _, h2, h3, _⟩ := old j f hf
    rw [h2, h3]
    exact ⟨⟨rvSame (h.bd j f0 h0).1.1 (fun g _ hg => hR g ((h.bd j f0 h0).1.2 g hg)), (h.bd j f0 h0).1.2⟩, rvSame (h.bd j f0 h0).2.1 (fun g _ hg => hR g ((h.bd j f0 h0).2.2 g hg)), (h.bd j f0 h0).2.2⟩
  · obtain ⟨f0, h0, _⟩ := old i f hf
    obtain ⟨f1, h1, _⟩ := old j f' hf'
    exact h.inj i j f0 f1 h0 h1 q
  · obtain ⟨f0, h0, _⟩ := old i f hf
    obtain ⟨f1, h1, _⟩ := old j f' hf'
    exact h.tsep i j f0 f1 b h0 h1 q q'
end
end Go.Proofs.Ytfdacckkdjpjhaa
