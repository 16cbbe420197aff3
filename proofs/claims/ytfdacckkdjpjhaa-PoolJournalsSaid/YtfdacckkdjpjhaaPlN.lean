/- Package pool: what Ask writes when it gives a task out. -/
import Derived.Test.YtfdacckkdjpjhaaPlE
namespace Go.Proofs.Ytfdacckkdjpjhaa
open Go.RowKit

section
variable {w w' : World} {p mb : Nat} {wv : Value} {F : Int → Option Value} {ks : List Int} {B : Int → Nat} {TV BV AV : Int → Value} {X R : Nat → Prop} {D : Pl}
/-- An entry's block turned, its tries in a row that is its own. -/
theorem PX.tried (h : PX w p mb wv F ks B TV BV AV X R D) {k : Int} {e e' : En} {tv : Value} (hk : D.ts k = some e) (hbd : e'.body = e.body) (ha : e'.ans.body = e.ans.body) (hb : w'.heap[B k]? = some (enO e' (BV k) tv (AV k))) (hs : w.heap.size ≤ w'.heap.size)
    (ho : ∀ b, b < w.heap.size → b ≠ B k → (TV k).ownBlock ≠ some b → w'.heap[b]? = w.heap[b]?) (ht : w'.ownsRow 0 112 2 tv e'.tries.length (tcells e'.tries)) (hn : ∀ g, tv.ownBlock = some g → (TV k).ownBlock = some g ∨ w.heap.size ≤ g)
    (ok : POk { D with ts := fun j => if j = k then some e' else D.ts j }) : PX w' p mb wv F ks B (fun j => if j = k then tv else TV j) BV AV (fun x => X x ∨ tv.ownBlock = some x) R { D with ts := fun j => if j = k then some e' else D.ts j } := by
  have hX : X (B k) := (h.en k e hk).2.2
  have hR := fun b (hb : R b) => ho b (h.rl b hb) (fun q => h.sep _ hX (by rw [← q]; exact hb)) (fun q => h.sep _ ((h.tr k e hk).2 b q) hb)
  have nk : ∀ b, kindAt w b ≠ some (some 112) → (TV k).ownBlock ≠ some b := fun b hb q => hb (h.kt hk q)
  have hXl := fun b (hb : X b) (h1 : b ≠ B k) (h2 : (TV k).ownBlock ≠ some b) => ho b (h.xl b hb) h1 h2
  have old : ∀ j f, (if j = k then some e' else D.ts j) = some f → ∃ f0, D.ts j = some f0 ∧ f.body = f0.body ∧ f.ans.body = f0.ans.body ∧ (j ≠ k → f = f0) ∧ (j = k → f = e') := fun j f hf => by
    by_cases q : j = k
    · rw [if_pos q] at hf
      cases hf
      subst q
      exact ⟨e, hk, hbd, ha, fun n => absurd rfl n, fun _ => rfl⟩
    · rw [if_neg q] at hf
      exact ⟨f, hf, rfl, rfl, fun _ => rfl, fun n => absurd n q⟩
  have kp := h.kp
  have km := h.km
  refine ⟨(hXl p h.xp (kind_ne kp (h.ke hk) (by decide)) (nk p (by rw [kp]; decide))).trans h.blk, h.map.kept (hXl mb h.xm (kind_ne km (h.ke hk) (by decide)) (nk mb (by rw [km]; decide))),
    own_same h.row (fun b hb => hXl b (h.xw b hb) (kind_ne (h.kw hb) (h.ke hk) (by decide)) (nk b (by rw [h.kw hb]; decide))), fun j hj => ?_,
    fun j f hf => ?_, fun j f hf => ?_, fun j f hf => ?_, fun i j f f' hf hf' q => ?_, fun i j f f' b hf hf' q q' => ?_, .inl h.xp, .inl h.xm, fun b hb => .inl (h.xw b hb), fun b hb hr => ?_, fun b hb => ?_, fun b hb => Nat.lt_of_lt_of_le (h.rl b hb) hs, ok⟩
  · by_cases q : j = k
    · simp [q] at hj
    · simp only [if_neg q] at hj
      exact h.emp j hj
  · obtain ⟨f0, h0, _, _, hn', he⟩ := old j f hf
    obtain ⟨h1, h2, h3⟩ := h.en j f0 h0
    refine ⟨h1, ?_, .inl h3⟩
    by_cases q : j = k
    · rw [he q, q, if_pos rfl]
      exact hb
    · rw [hn' q, if_neg q]
      exact (hXl _ h3 (fun q2 => q (h.inj j k f0 e h0 hk q2)) (nk _ (by rw [h.ke h0]; decide))).trans h2
  · obtain ⟨f0, h0, _, _, hn', he⟩ := old j f hf
    by_cases q : j = k
    · rw [he q, if_pos q]
      exact ⟨ht, fun b hb => .inr hb⟩
    · rw [hn' q, if_neg q]
      exact ⟨own_same (h.tr j f0 h0).1 (fun b hb => hXl b ((h.tr j f0 h0).2 b hb) (kind_ne (h.kt h0 hb) (h.ke hk) (by decide)) (fun q2 => q (h.tsep j k f0 e b h0 hk hb q2))), fun b hb => .inl ((h.tr j f0 h0).2 b hb)⟩
  · obtain ⟨f0, h0, h1, h2, _⟩ := old j f hf
    rw [h1, h2]
    exact ⟨⟨rvSame (h.bd j f0 h0).1.1 (fun g _ hg => hR g ((h.bd j f0 h0).1.2 g hg)), (h.bd j f0 h0).1.2⟩, rvSame (h.bd j f0 h0).2.1 (fun g _ hg => hR g ((h.bd j f0 h0).2.2 g hg)), (h.bd j f0 h0).2.2⟩
  · obtain ⟨f0, h0, _⟩ := old i f hf
    obtain ⟨f1, h1, _⟩ := old j f' hf'
    exact h.inj i j f0 f1 h0 h1 q
  · obtain ⟨f0, h0, _⟩ := old i f hf
    obtain ⟨f1, h1, _⟩ := old j f' hf'
    by_cases qi : i = k
    · by_cases qj : j = k
      · rw [qi, qj]
      · rw [if_pos qi] at q
        rw [if_neg qj] at q'
        rcases hn b q with q2 | q2
        · exact absurd (h.tsep j k f1 e b h1 hk q' q2) qj
        · have := h.xl b ((h.tr j f1 h1).2 b q'); omega
    · by_cases qj : j = k
      · rw [if_neg qi] at q
        rw [if_pos qj] at q'
        rcases hn b q' with q2 | q2
        · exact absurd (h.tsep i k f0 e b h0 hk q q2) qi
        · have := h.xl b ((h.tr i f0 h0).2 b q); omega
      · rw [if_neg qi] at q
        rw [if_neg qj] at q'
        exact h.tsep i j f0 f1 b h0 h1 q q'
  · rcases hb with hb | hb
    · exact h.sep b hb hr
    · rcases hn b hb with q | q
      · exact h.sep b ((h.tr k e hk).2 b q) hr
      · have := h.rl b hr; omega
  · rcases hb with hb | hb
    · exact Nat.lt_of_lt_of_le (h.xl b hb) hs
    · exact (ht.lt b hb).2
/-- A worker's cells are set. -/
theorem PX.workerRow (h : PX w p mb wv F ks B TV BV AV X R D) {g : Nat} (hg : wv.ownBlock = some g) {i : Nat} {v' : Wk} (hr : w'.ownsRow 0 105 3 wv (D.ws.set i v').length (wcells (D.ws.set i v'))) (hs : w'.heap.size = w.heap.size) (ho : ∀ b, b ≠ g → w'.heap[b]? = w.heap[b]?)
    (ok : POk { D with ws := D.ws.set i v' }) : PX w' p mb wv F ks B TV BV AV X R { D with ws := D.ws.set i v' } := by
  have hR := fun b (hb : R b) => ho b (fun e => h.sep g (h.xw g hg) (by rw [← e]; exact hb))
  exact ⟨(ho p (kind_ne h.kp (h.kw hg) (by decide))).trans h.blk, h.map.kept (ho mb (kind_ne h.km (h.kw hg) (by decide))), hr, h.emp,
    fun k e hk => ⟨(h.en k e hk).1, (ho _ (kind_ne (h.ke hk) (h.kw hg) (by decide))).trans (h.en k e hk).2.1, (h.en k e hk).2.2⟩,
    fun k e hk => ⟨own_same (h.tr k e hk).1 (fun b hb => ho b (kind_ne (h.kt hk hb) (h.kw hg) (by decide))), (h.tr k e hk).2⟩,
    fun k e hk => ⟨⟨rvSame (h.bd k e hk).1.1 (fun g _ hg => hR g ((h.bd k e hk).1.2 g hg)), (h.bd k e hk).1.2⟩, rvSame (h.bd k e hk).2.1 (fun g _ hg => hR g ((h.bd k e hk).2.2 g hg)), (h.bd k e hk).2.2⟩,
    h.inj, h.tsep, h.xp, h.xm, h.xw, h.sep, fun b hb => by rw [hs]; exact h.xl b hb, fun b hb => by rw [hs]; exact h.rl b hb, ok⟩
/-- A worker that has a task: its cells 1 and 2. -/
theorem PX.given (h : PX w p mb wv F ks B TV BV AV X R D) {g n c i : Nat} (hwv : wv = .slice (some ⟨g, 0, none⟩) n c) {v : Wk} (hv : D.ws[i]? = some v) {k : Int} {e : En} (hk : D.ts k = some e) (hne : e.tries ≠ []) :
    PX ((w.setCell ⟨g, i * 3 + 1, none⟩ (.bool true)).setCell ⟨g, i * 3 + 2, none⟩ (.int .i64 k)) p mb wv F ks B TV BV AV X R { D with ws := D.ws.set i ⟨v.dead, true, k⟩ } := by
  have hg : wv.ownBlock = some g := by rw [hwv]; rfl
  have hi := (List.getElem?_eq_some_iff.1 hv).1
  refine h.workerRow hg ?_ (by rw [World.size_setCell, World.size_setCell]) (fun b hb => by rw [Below.heap_setCell _ _ _ _ hb, Below.heap_setCell _ _ _ _ hb]) (ok_worker h.ok hv (fun _ => ⟨e, hk, hne⟩))
  rw [List.length_set]
  have e1 := wcells_set D.ws i 1 v ⟨v.dead, true, v.task⟩ (.bool true) hv (by decide) rfl
  have e2 := wcells_set (D.ws.set i ⟨v.dead, true, v.task⟩) i 2 ⟨v.dead, true, v.task⟩ ⟨v.dead, true, k⟩ (.int .i64 k) (List.getElem?_set_self hi) (by decide) rfl
  rw [List.set_set] at e2
  rw [← e2, ← e1]
  have hr := h.row
  rw [hwv] at hr ⊢
  have e : n = D.ws.length := own_k hr
  subst e
  exact ((hr.stored (i * 3 + 1) (.bool true)).1.stored (i * 3 + 2) (.int .i64 k)).1
end
theorem ok_tried {D : Pl} (h : POk D) {k : Int} {e : En} (hk : D.ts k = some e) (i : Nat) (hi : i < D.ws.length) (b : Bool) : POk { D with ts := fun j => if j = k then some { e with tries := e.tries ++ [((i : Int), D.tick)], lost := b } else D.ts j } := by
  refine ⟨h.ord, fun j => ?_, h.idr, h.many, h.tmo, h.tck, h.wsl, fun j f hf => ?_, fun j f hf t htt => ?_, fun j u hu hh => ?_⟩
  · rw [h.mem j]
    show _ ↔ ∃ f, (if j = k then some _ else D.ts j) = some f
    by_cases q : j = k
    · subst q
      simp [hk]
    · simp [q]
  · change (if j = k then some _ else D.ts j) = some f at hf
    by_cases q : j = k
    · rw [if_pos q] at hf; cases hf; exact h.bod k e hk
    · rw [if_neg q] at hf; exact h.bod j f hf
  · change (if j = k then some _ else D.ts j) = some f at hf
    by_cases q : j = k
    · rw [if_pos q] at hf
      cases hf
      rcases List.mem_append.1 htt with m | m
      · exact h.tri k e hk t m
      · rw [List.mem_singleton.1 m]
        have := h.tck
        exact ⟨⟨by show (0 : Int) ≤ (i : Int); omega, by show (i : Int) < (D.ws.length : Int); omega⟩, this.1, Int.le_refl _⟩
    · rw [if_neg q] at hf; exact h.tri j f hf t htt
  · obtain ⟨f, hf, hn⟩ := h.has j u hu hh
    by_cases q : u.task = k
    · refine ⟨_, by show (if u.task = k then some _ else D.ts u.task) = _; rw [if_pos q], ?_⟩
      simp
    · exact ⟨f, by show (if u.task = k then some _ else D.ts u.task) = _; rw [if_neg q]; exact hf, hn⟩
theorem tcells_snoc (l : List (Int × Int)) (a b : Int) : tcells (l ++ [(a, b)]) = tcells l ++ [.int .i64 a, .int .i64 b] := by unfold tcells; rw [List.flatMap_append]; rfl
end Go.Proofs.Ytfdacckkdjpjhaa
