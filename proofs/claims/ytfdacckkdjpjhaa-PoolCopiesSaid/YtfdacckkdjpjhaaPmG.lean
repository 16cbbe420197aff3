/- Package pool's model: Die and Revive answer as the pool does; plain facts of the jobs. -/
import Derived.Test.YtfdacckkdjpjhaaPmF
namespace Go.Proofs.Ytfdacckkdjpjhaa
open Go.RowKit

theorem mdOf_no (D : Pl) (L : List Tr) (x : Int) : (mdOf D L).no x = D.no x := by unfold Md.no Pl.no mdOf; simp only [List.length_map]
theorem mdOf_alive (D : Pl) (L : List Tr) (i : Nat) : (mdOf D L).alive[i]? = (D.ws[i]?).map (fun v => !v.dead) := by unfold mdOf; rw [List.getElem?_map]
theorem jobs_same {D D' : Pl} (h1 : D'.ids = D.ids) (h2 : ∀ k, jbOf D' k = jbOf D k) : D'.ids.map (jbOf D') = D.ids.map (jbOf D) := by rw [h1]; exact List.map_congr_left fun x _ => h2 x
theorem mdOf_revive (D : Pl) (L : List Tr) (x : Int) : (mdOf D L).revive x = ((D.revive x).1, mdOf (D.revive x).2 L) := by
  unfold Md.revive Pl.revive
  rw [mdOf_no]
  by_cases h0 : D.no x = true
  · rw [if_pos h0, if_pos h0]
  · rw [if_neg h0, if_neg h0, mdOf_alive]
    obtain ⟨i, v, rfl, hi, hv⟩ := yes_worker (D := D) (x := x) (by simpa using h0)
    rw [Int.toNat_natCast, hv]
    cases hd : v.dead
    · simp [hd]
    · simp only [hd, Option.map_some, Bool.not_true]
      rw [if_neg (by simp), if_pos trivial]
      unfold mdOf
      simp only [List.map_set, Bool.not_false]
      rfl
theorem jbOf_map {D D' : Pl} {k : Int} {f : En → En} (h : D'.ts k = (D.ts k).map f) (hf : ∀ e, (f e).body = e.body ∧ (f e).tries = e.tries ∧ (f e).done = e.done ∧ (f e).ans = e.ans) : jbOf D' k = jbOf D k := by
  unfold jbOf
  rw [h]
  cases D.ts k with
  | none => rfl
  | some e =>
    obtain ⟨h1, h2, h3, h4⟩ := hf e
    simp only [Option.map_some]
    rw [h1, h2, h3, h4]
theorem mdOf_die (D : Pl) (L : List Tr) (x t : Int) : (mdOf D L).die x t = ((D.die x t).1, mdOf (D.die x t).2 (D.logDie x t L)) := by
  unfold Md.die Pl.logDie
  rw [mdOf_wrong]
  obtain ⟨O, hO⟩ : ∃ O, D.die x t = O := ⟨_, rfl⟩
  rw [hO]
  unfold Pl.die at hO
  by_cases h0 : D.wrong x t ≠ 0
  · rw [if_pos h0] at hO ⊢
    subst hO
    rw [if_neg h0]
  · rw [if_neg h0] at hO ⊢
    obtain ⟨i, v, rfl, hi, hv⟩ := yes_worker (wrong_ok (by simpa using h0)).1
    rw [Int.toNat_natCast] at hO ⊢
    rw [hv] at hO
    rw [mdOf_alive, hv]
    simp only at hO
    cases hd : v.dead
    · rw [hd, if_neg (by simp)] at hO
      subst hO
      rw [if_pos (by simp [hd]), if_pos rfl, lose_eq]
      congr 1
      unfold mdOf
      simp only [List.map_set, Bool.not_true, Md.mk.injEq, true_and, and_true]
      exact List.map_congr_left fun k _ => (jbOf_map (f := fun e => { e with lost := e.lost || (v.has && decide (v.task = k) && mineLast e i) }) rfl (fun _ => ⟨rfl, rfl, rfl, rfl⟩)).symm
    · rw [hd, if_pos rfl] at hO
      subst hO
      rw [if_neg (by simp [hd]), if_neg (fun h => by cases h)]
/-- The job of a task. -/
theorem mdOf_job {D : Pl} (L : List Tr) (ok : POk D) {k : Int} {e : En} (he : D.ts k = some e) : ∃ i : Nat, D.ids[i]? = some k ∧ (mdOf D L).jobs[i]? = some (jbOf D k) ∧ ∀ (j : Nat) (f : Jb), (mdOf D L).jobs[j]? = some f → f.id = k → j = i := by
  obtain ⟨i, hi, hx⟩ := List.mem_iff_getElem.1 ((ok.mem k).2 ⟨e, he⟩)
  refine ⟨i, by rw [List.getElem?_eq_getElem hi, hx], by rw [mdOf_get, List.getElem?_eq_getElem hi, hx]; rfl, fun j f hj hf => ?_⟩
  rw [mdOf_get] at hj
  cases hy : D.ids[j]? with
  | none => rw [hy] at hj; cases hj
  | some y =>
    rw [hy] at hj
    cases hj
    rw [jbOf_id] at hf
    obtain ⟨hjl, e1⟩ := List.getElem?_eq_some_iff.1 hy
    rcases Nat.lt_trichotomy j i with h1 | h1 | h1
    · have := List.pairwise_iff_getElem.1 ok.ord j i hjl hi h1
      omega
    · exact h1
    · have := List.pairwise_iff_getElem.1 ok.ord i j hi hjl h1
      omega
theorem mdOf_len (D : Pl) (L : List Tr) : (mdOf D L).jobs.length = D.ids.length := by unfold mdOf; exact List.length_map _
theorem mdOf_hot {D : Pl} (L : List Tr) {x : Tr} {e : En} (he : D.ts x.task = some e) (t : Int) : (mdOf D L).hot (jbOf D x.task) x t = D.hot x t := by
  unfold Md.hot Pl.hot jbOf mdOf
  rw [he]
theorem jbOf_some {D : Pl} {k : Int} {e : En} (h : D.ts k = some e) : jbOf D k = ⟨k, e.body, (e.tries.length : Int), e.done, e.ans.worker, e.ans.tr, e.ans.body⟩ := by unfold jbOf; rw [h]
/-- One task has turned. -/
theorem mdOf_set {D D' : Pl} {L : List Tr} (ok : POk D) {k : Int} {e e' : En} {i : Nat} (hi : D.ids[i]? = some k) (_he : D.ts k = some e) (hids : D'.ids = D.ids) (hts : ∀ j, D'.ts j = if j = k then some e' else D.ts j) (hws : D'.ws.map (fun v => !v.dead) = D.ws.map (fun v => !v.dead)) (htm : D'.timeout = D.timeout) (L' : List Tr) :
    mdOf D' L' = { mdOf D L with tick := D'.tick, jobs := (mdOf D L).jobs.set i ⟨k, e'.body, (e'.tries.length : Int), e'.done, e'.ans.worker, e'.ans.tr, e'.ans.body⟩, tries := L' } := by
  unfold mdOf
  rw [hws, htm, hids]
  simp only [Md.mk.injEq, true_and, and_true]
  apply List.ext_getElem?
  intro j
  have hil := (List.getElem?_eq_some_iff.1 hi).1
  by_cases q : j = i
  · subst q
    rw [List.getElem?_set_self (by rw [List.length_map]; exact hil), List.getElem?_map, hi]
    show some (jbOf D' k) = _
    rw [jbOf_some ((hts k).trans (if_pos rfl))]
  · rw [List.getElem?_set_ne (fun h => q h.symm), List.getElem?_map, List.getElem?_map]
    cases hy : D.ids[j]? with
    | none => rfl
    | some y =>
      show some _ = some _
      congr 1
      refine jbOf_ne ((hts y).trans (if_neg fun e2 => q ?_))
      obtain ⟨hjl, e1⟩ := List.getElem?_eq_some_iff.1 hy
      obtain ⟨_, e3⟩ := List.getElem?_eq_some_iff.1 hi
      rcases Nat.lt_trichotomy j i with h1 | h1 | h1
      · have := List.pairwise_iff_getElem.1 ok.ord j i hjl hil h1
        omega
      · exact h1
      · have := List.pairwise_iff_getElem.1 ok.ord i j hil hjl h1
        omega
/-- The tasks that are running. -/
def takenL (D : Pl) (t : Int) (L : List Tr) : List Int := (L.filter (D.hot · t)).map (·.task)
theorem takenL_snoc (D : Pl) (t : Int) (L : List Tr) (x : Tr) : takenL D t (L ++ [x]) = takenL D t L ++ if D.hot x t = true then [x.task] else [] := by
  unfold takenL
  rw [List.filter_append, List.map_append]
  congr 1
  cases h : D.hot x t <;> simp [h]
theorem taken_iff {D : Pl} {L : List Tr} {t k : Int} {e : En} (h : Log D L) (ht : D.tick ≤ t) (he : D.ts k = some e) : k ∈ takenL D t L ↔ D.run e t = true := by
  unfold takenL
  rw [List.mem_map]
  constructor
  · rintro ⟨x, hx, rfl⟩
    obtain ⟨hx1, hx2⟩ := List.mem_filter.1 hx
    obtain ⟨f, hf, _, hr⟩ := h.run ht hx1 hx2
    rw [he] at hf
    cases hf
    exact hr
  · intro hr
    obtain ⟨x, hx, hk, _, hh⟩ := h.hot_of ht he hr
    exact ⟨x, List.mem_filter.2 ⟨hx, hh⟩, hk⟩
/-- Whether a try is known. -/
def knownL (L : List Tr) (task worker tr : Int) : Bool := L.any fun x => decide (x.task = task) && decide ((x.num : Int) = tr) && decide (x.worker = worker)
theorem known_mine {D : Pl} {L : List Tr} {task worker tr : Int} {e : En} (h : Log D L) (he : D.ts task = some e) : knownL L task worker tr = e.mine worker tr := by
  apply Bool.eq_iff_iff.2
  unfold knownL En.mine
  rw [List.any_eq_true]
  constructor
  · rintro ⟨x, hx, hh⟩
    simp only [Bool.and_eq_true, decide_eq_true_eq] at hh
    obtain ⟨⟨rfl, rfl⟩, rfl⟩ := hh
    obtain ⟨f, hf, hg⟩ := h.get x hx
    rw [he] at hf
    cases hf
    rw [Int.toNat_natCast, hg]
    simp
  · intro hh
    rw [Bool.and_eq_true] at hh
    obtain ⟨h0, h1⟩ := hh
    have h0 := of_decide_eq_true h0
    cases hg : e.tries[tr.toNat]? with
    | none => rw [hg] at h1; cases h1
    | some y =>
      rw [hg] at h1
      have h1 : y.1 = worker := by simpa using h1
      obtain ⟨o, ho⟩ := h.all task e tr.toNat y he hg
      refine ⟨_, ho, ?_⟩
      simp only [Bool.and_eq_true, decide_eq_true_eq]
      exact ⟨⟨trivial, by omega⟩, h1⟩
section
variable {w w' : World} {q : Nat} {av jv tv av' jv' tv' : Value} {J J' : List JV} {Y R : Nat → Prop} {M M' : Md}
/-- The row of the workers' lives is another one. -/
theorem MX.turnA (h : MX w q av jv tv J Y R M) (hs : w.heap.size ≤ w'.heap.size) {l : List Bool} (hb : w'.heap[q]? = some (mdO { M with alive := l } av' jv tv)) (ha : w'.ownsRow 0 4 1 av' l.length (l.map Value.bool)) (ho : ∀ b, b < w.heap.size → b ≠ q → av.ownBlock ≠ some b → w'.heap[b]? = w.heap[b]?) (hn : SameOrNew w av av') :
    MX w' q av' jv tv J (fun b => Y b ∨ av'.ownBlock = some b ∨ jv.ownBlock = some b ∨ tv.ownBlock = some b) R { M with alive := l } :=
  h.rows hs hb ha
    (own_same h.jo fun b hb => ho b (h.yl b (h.yj b hb)) (kind_ne (h.kj hb) h.kq (by decide)) (fun e => absurd rfl (kind_ne (h.kj hb) (h.ka e) (by decide))))
    (own_same h.tr fun b hb => ho b (h.yl b (h.yt b hb)) (kind_ne (h.kt hb) h.kq (by decide)) (fun e => absurd rfl (kind_ne (h.kt hb) (h.ka e) (by decide))))
    h.js (fun b hb => ho b (h.rl b hb) (fun e => h.sep q h.yq (e ▸ hb)) (fun e => h.sep b (h.ya b e) hb)) (fun _ h => .inl h) (fun _ h => h) (fun _ h => .inl h)
    (fun b hb => hn.elim (fun e => .inl (h.ya b (e ▸ hb))) (fun e => .inr (e b hb))) (fun b hb => .inl (h.yj b hb)) (fun b hb => .inl (h.yt b hb))
/-- The row of the tries is another one. -/
theorem MX.turnT (h : MX w q av jv tv J Y R M) (hs : w.heap.size ≤ w'.heap.size) {l : List Tr} (hb : w'.heap[q]? = some (mdO { M with tries := l } av jv tv')) (ht : w'.ownsRow 0 135 5 tv' l.length (trcells l)) (ho : ∀ b, b < w.heap.size → b ≠ q → tv.ownBlock ≠ some b → w'.heap[b]? = w.heap[b]?) (hn : SameOrNew w tv tv') :
    MX w' q av jv tv' J (fun b => Y b ∨ av.ownBlock = some b ∨ jv.ownBlock = some b ∨ tv'.ownBlock = some b) R { M with tries := l } :=
  h.rows hs hb
    (own_same h.al fun b hb => ho b (h.yl b (h.ya b hb)) (kind_ne (h.ka hb) h.kq (by decide)) (fun e => absurd rfl (kind_ne (h.ka hb) (h.kt e) (by decide))))
    (own_same h.jo fun b hb => ho b (h.yl b (h.yj b hb)) (kind_ne (h.kj hb) h.kq (by decide)) (fun e => absurd rfl (kind_ne (h.kj hb) (h.kt e) (by decide)))) ht
    h.js (fun b hb => ho b (h.rl b hb) (fun e => h.sep q h.yq (e ▸ hb)) (fun e => h.sep b (h.yt b e) hb)) (fun _ h => .inl h) (fun _ h => h) (fun _ h => .inl h)
    (fun b hb => .inl (h.ya b hb)) (fun b hb => .inl (h.yj b hb)) (fun b hb => hn.elim (fun e => .inl (h.yt b (e ▸ hb))) (fun e => .inr (e b hb)))
/-- The row of the jobs is a new one, with more bodies. -/
theorem MX.turnJ (h : MX w q av jv tv J Y R M) (hs : w.heap.size ≤ w'.heap.size) {l : List Jb} (hb : w'.heap[q]? = some (mdO { M with jobs := l } av jv' tv)) (hj : w'.ownsRow 0 133 7 jv' J'.length (jcells J')) (hjs : J'.map (·.j) = l) (ho : ∀ b, b < w.heap.size → b ≠ q → w'.heap[b]? = w.heap[b]?) {R' : Nat → Prop} (hR' : ∀ b, R' b → R b ∨ (¬ Y b ∧ b < w.heap.size)) (hRR : ∀ b, R b → R' b)
    (hJ : ∀ x ∈ J', x ∈ J ∨ ((Rv w' x.bv x.j.body.length (x.j.body.map vB) ∧ ∀ b, x.bv.ownBlock = some b → R' b) ∧ Rv w' x.rv x.j.reply.length (x.j.reply.map vB) ∧ ∀ b, x.rv.ownBlock = some b → R' b)) (hn : ∀ b, jv'.ownBlock = some b → w.heap.size ≤ b) :
    MX w' q av jv' tv J' (fun b => Y b ∨ av.ownBlock = some b ∨ jv'.ownBlock = some b ∨ tv.ownBlock = some b) R' { M with jobs := l } :=
  h.rows hs hb
    (own_same h.al fun b hb => ho b (h.yl b (h.ya b hb)) (kind_ne (h.ka hb) h.kq (by decide))) hj
    (own_same h.tr fun b hb => ho b (h.yl b (h.yt b hb)) (kind_ne (h.kt hb) h.kq (by decide)))
    hjs (fun b hb => ho b (h.rl b hb) (fun e => h.sep q h.yq (e ▸ hb))) hR' hRR hJ
    (fun b hb => .inl (h.ya b hb)) (fun b hb => .inr (hn b hb)) (fun b hb => .inl (h.yt b hb))
end
end Go.Proofs.Ytfdacckkdjpjhaa
