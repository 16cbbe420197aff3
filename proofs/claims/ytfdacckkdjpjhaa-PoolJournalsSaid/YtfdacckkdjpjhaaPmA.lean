/- Several texts in one: PlP PmA. -/
import Derived.Test.YtfdacckkdjpjhaaPlH
/- Package pool: the list of all tries beside a pool; which of them run. -/
namespace Go.Proofs.Ytfdacckkdjpjhaa
open Go.RowKit

def Pl.busy (D : Pl) (v : Wk) (x t : Int) : Bool := v.has && match D.ts v.task with
  | none => false
  | some e => match e.tries.getLast? with
    | none => false
    | some y => y.1 == x && D.run e t
/-- The first task that may be given out. -/
def Pl.pickIn (D : Pl) (t : Int) (l : List Int) : Option (Int × En) := l.findSome? fun k => match D.ts k with
  | none => none
  | some e => if e.done || D.run e t then none else some (k, e)
def Pl.give (D : Pl) (i : Nat) (v : Wk) (t k : Int) (e : En) : Pl := { D with ts := fun j => if j = k then some { e with tries := e.tries ++ [((i : Int), t)], lost := false } else D.ts j, ws := D.ws.set i ⟨v.dead, true, k⟩ }
/-- What Ask returns: the task, its body, the number of the try, whether there is one, the error. -/
structure Asked where
  id : Int
  body : List UInt8
  n : Int
  is : Bool
  err : Int
def Pl.ask (D : Pl) (x t : Int) : Asked × Pl :=
  if D.wrong x t ≠ 0 then (⟨0, [], 0, false, D.wrong x t⟩, D) else match D.ws[x.toNat]? with
  | none => (⟨0, [], 0, false, 1⟩, D)
  | some v => if v.dead = true then (⟨0, [], 0, false, 19⟩, D) else if D.busy v x t = true then (⟨0, [], 0, false, 15⟩, D) else
    match D.pickIn t D.ids with
    | none => (⟨0, [], 0, false, 0⟩, { D with tick := t })
    | some (k, e) => (⟨k, e.body, e.tries.length, true, 0⟩, ({ D with tick := t } : Pl).give x.toNat v t k e)
structure Tr where
  task : Int
  num : Nat
  worker : Int
  tick : Int
  over : Bool
/-- Whether a try runs. -/
def Pl.hot (D : Pl) (x : Tr) (t : Int) : Bool := (match D.ts x.task with
  | none => false
  | some e => !e.done) && !x.over && decide (t < x.tick + D.timeout)
structure Log (D : Pl) (L : List Tr) : Prop where
  get : ∀ x ∈ L, ∃ e, D.ts x.task = some e ∧ e.tries[x.num]? = some (x.worker, x.tick)
  all : ∀ k e n t, D.ts k = some e → e.tries[n]? = some t → ∃ o, (⟨k, n, t.1, t.2, o⟩ : Tr) ∈ L
  old : ∀ x ∈ L, ∀ e, D.ts x.task = some e → e.done = false → x.num + 1 < e.tries.length → x.over = true ∨ x.tick + D.timeout ≤ D.tick
  lst : ∀ x ∈ L, ∀ e, D.ts x.task = some e → e.done = false → x.num + 1 = e.tries.length → x.over = e.lost ∨ x.tick + D.timeout ≤ D.tick
  own : ∀ k e t, D.ts k = some e → e.done = false → e.lost = false → e.tries.getLast? = some t → D.tick < t.2 + D.timeout → ∃ v, D.ws[t.1.toNat]? = some v ∧ v.has = true ∧ v.task = k
  ans : ∀ k e, D.ts k = some e → e.done = true → e.ans.task = k
section
variable {D : Pl} {L : List Tr} {t k : Int} {e : En} {x : Tr} {i : Nat} {v : Wk}
theorem run_eq (D : Pl) (e : En) (t : Int) : D.run e t = true ↔ e.done = false ∧ e.lost = false ∧ ∃ y, e.tries.getLast? = some y ∧ t < y.2 + D.timeout := by
  unfold Pl.run
  cases e.done <;> cases e.lost <;> cases hl : e.tries.getLast? <;> simp
theorem hot_eq (D : Pl) (x : Tr) (t : Int) : D.hot x t = true ↔ (∃ e, D.ts x.task = some e ∧ e.done = false) ∧ x.over = false ∧ t < x.tick + D.timeout := by
  unfold Pl.hot
  cases D.ts x.task <;> cases x.over <;> simp
theorem last_at {α : Type} {l : List α} {y : α} {n : Nat} (h : l[n]? = some y) (hn : n + 1 = l.length) : l.getLast? = some y := by
  rw [List.getLast?_eq_getElem?, ← hn]
  exact h
theorem at_last {α : Type} {l : List α} {y : α} (h : l.getLast? = some y) : ∃ n, n + 1 = l.length ∧ l[n]? = some y := by
  rw [List.getLast?_eq_getElem?] at h
  have := (List.getElem?_eq_some_iff.1 h).1
  exact ⟨l.length - 1, by omega, h⟩
theorem Log.run (h : Log D L) (ht : D.tick ≤ t) (hx : x ∈ L) (hh : D.hot x t = true) : ∃ e, D.ts x.task = some e ∧ e.tries.getLast? = some (x.worker, x.tick) ∧ D.run e t = true := by
  obtain ⟨⟨e, he, hd⟩, ho, hlt⟩ := (hot_eq D x t).1 hh
  obtain ⟨e', he', hg⟩ := h.get x hx
  rw [he] at he'
  cases he'
  have hn := (List.getElem?_eq_some_iff.1 hg).1
  have hl : x.num + 1 = e.tries.length := by
    by_cases q : x.num + 1 < e.tries.length
    · rcases h.old x hx e he hd q with h1 | h1
      · rw [ho] at h1; cases h1
      · omega
    · omega
  have hlast := last_at hg hl
  refine ⟨e, he, hlast, (run_eq D e t).2 ⟨hd, ?_, _, hlast, hlt⟩⟩
  rcases h.lst x hx e he hd hl with h1 | h1
  · rw [← h1]; exact ho
  · omega
theorem Log.hot_of (h : Log D L) (ht : D.tick ≤ t) (hk : D.ts k = some e) (hr : D.run e t = true) : ∃ x ∈ L, x.task = k ∧ e.tries.getLast? = some (x.worker, x.tick) ∧ D.hot x t = true := by
  obtain ⟨hd, hl, y, hy, hlt⟩ := (run_eq D e t).1 hr
  obtain ⟨n, hn, hg⟩ := at_last hy
  obtain ⟨o, ho⟩ := h.all k e n y hk hg
  refine ⟨_, ho, rfl, hy, (hot_eq D _ t).2 ⟨⟨e, hk, hd⟩, ?_, hlt⟩⟩
  rcases h.lst _ ho e hk hd hn with h1 | h1
  · show o = false
    exact h1.trans hl
  · have : y.2 + D.timeout ≤ D.tick := h1
    omega
theorem busy_eq (D : Pl) (v : Wk) (x t : Int) : D.busy v x t = true ↔ v.has = true ∧ ∃ e y, D.ts v.task = some e ∧ e.tries.getLast? = some y ∧ y.1 = x ∧ D.run e t = true := by
  unfold Pl.busy
  cases hh : v.has
  · simp
  · cases he : D.ts v.task with
    | none => simp
    | some e =>
      cases hl : e.tries.getLast? with
      | none => simp [hl]
      | some y =>
        simp [hl]
        exact ⟨fun ⟨a, b⟩ => ⟨_, ⟨_, rfl⟩, a, b⟩, fun ⟨a, ⟨b, h⟩, c, d⟩ => ⟨by rw [h]; exact c, d⟩⟩
theorem Log.busy (h : Log D L) (ht : D.tick ≤ t) (hv : D.ws[i]? = some v) : D.busy v (i : Int) t = true ↔ ∃ x ∈ L, x.worker = (i : Int) ∧ D.hot x t = true := by
  rw [busy_eq]
  constructor
  · rintro ⟨_, e, y, he, hy, hyi, hr⟩
    obtain ⟨x, hx, _, hl, hh⟩ := h.hot_of ht he hr
    rw [hy] at hl
    cases hl
    exact ⟨x, hx, hyi, hh⟩
  · rintro ⟨x, hx, hxi, hh⟩
    obtain ⟨e, he, hl, hr⟩ := h.run ht hx hh
    obtain ⟨hd, hlo, y, hy, hlt⟩ := (run_eq D e t).1 hr
    rw [hl] at hy
    cases hy
    obtain ⟨u, hu, hh2, hk⟩ := h.own _ e _ he hd hlo hl (by show D.tick < x.tick + D.timeout; have : t < x.tick + D.timeout := hlt; omega)
    have hu : D.ws[x.worker.toNat]? = some u := hu
    rw [hxi, Int.toNat_natCast, hv] at hu
    cases hu
    exact ⟨hh2, e, _, by rw [hk]; exact he, hl, hxi, hr⟩
/-- The tick goes on. -/
theorem Log.later (h : Log D L) (ht : D.tick ≤ t) : Log { D with tick := t } L :=
  ⟨h.get, h.all, fun x hx e he hd hn => (h.old x hx e he hd hn).imp id (fun h => Int.le_trans h ht), fun x hx e he hd hn => (h.lst x hx e he hd hn).imp id (fun h => Int.le_trans h ht),
    fun k e y hk hd hl hy hlt => h.own k e y hk hd hl hy (Int.lt_of_le_of_lt ht hlt), h.ans⟩
theorem Log.new (n : Nat) (t : Int) : Log (newPl n t) [] :=
  ⟨(fun _ h => by cases h), (fun _ _ _ _ h => by cases h), (fun _ h => by cases h), (fun _ h => by cases h), (fun _ _ _ h => by cases h), (fun _ _ h => by cases h)⟩
/-- A new task. -/
theorem Log.added (h : Log D L) {ids : List Int} {b : List UInt8} (hk : D.ts k = none) : Log { D with ids := ids, ts := fun j => if j = k then some (freshE b) else D.ts j } L := by
  have nk : ∀ x ∈ L, x.task ≠ k := fun x hx q => by
    obtain ⟨e, he, _⟩ := h.get x hx
    rw [q, hk] at he
    cases he
  have sm : ∀ x ∈ L, ∀ e, (if x.task = k then some (freshE b) else D.ts x.task) = some e → D.ts x.task = some e := fun x hx e he => by rwa [if_neg (nk x hx)] at he
  refine ⟨fun x hx => ?_, fun j f n y hf hy => ?_, fun x hx f hf => h.old x hx f (sm x hx f hf), fun x hx f hf => h.lst x hx f (sm x hx f hf), fun j f y hf hd hl hy hlt => ?_, fun j f hf hd => ?_⟩
  · obtain ⟨e, he, hg⟩ := h.get x hx
    exact ⟨e, by show (if x.task = k then _ else _) = _; rw [if_neg (nk x hx)]; exact he, hg⟩
  all_goals
    change (if j = k then some (freshE b) else D.ts j) = some f at hf
    by_cases q : j = k
    · rw [if_pos q] at hf
      cases hf
      first | (simp [freshE] at hy; done) | (cases hd; done)
    · rw [if_neg q] at hf
      first | exact h.all j f n y hf hy | exact h.own j f y hf hd hl hy hlt | exact h.ans j f hf hd
/-- A task is answered. -/
theorem Log.answered (h : Log D L) {a : Rep} (hk : D.ts k = some e) (ha : a.task = k) : Log { D with ts := fun j => if j = k then some { e with done := true, ans := a } else D.ts j } L := by
  refine ⟨fun x hx => ?_, fun j f n y hf hy => ?_, fun x hx f hf hd => ?_, fun x hx f hf hd => ?_, fun j f y hf hd hl hy hlt => ?_, fun j f hf hd => ?_⟩
  · obtain ⟨f, hf, hg⟩ := h.get x hx
    by_cases q : x.task = k
    · rw [q, hk] at hf
      cases hf
      exact ⟨{ e with done := true, ans := a }, by show (if x.task = k then _ else _) = _; rw [if_pos q], hg⟩
    · exact ⟨f, by show (if x.task = k then _ else _) = _; rw [if_neg q]; exact hf, hg⟩
  all_goals
    first
    | change (if j = k then some { e with done := true, ans := a } else D.ts j) = some f at hf
    | change (if x.task = k then some { e with done := true, ans := a } else D.ts x.task) = some f at hf
    split at hf
    · rename_i q
      cases hf
      first | (cases hd; done) | exact q ▸ h.all k e n y hk hy | exact q ▸ ha
    · first | exact h.all j f n y hf hy | exact h.old x hx f hf hd | exact h.lst x hx f hf hd | exact h.own j f y hf hd hl hy hlt | exact h.ans j f hf hd
/-- A task is given out. -/
theorem Log.give (h : Log D L) (ok : POk D) (hv : D.ws[i]? = some v) (hk : D.ts k = some e) (hd : e.done = false) (hr : D.run e D.tick = false) (hb : D.busy v (i : Int) D.tick = false) : Log (D.give i v D.tick k e) (L ++ [⟨k, e.tries.length, (i : Int), D.tick, false⟩]) := by
  have hi := (List.getElem?_eq_some_iff.1 hv).1
  have hts : ∀ j, (D.give i v D.tick k e).ts j = if j = k then some { e with tries := e.tries ++ [((i : Int), D.tick)], lost := false } else D.ts j := fun _ => rfl
  refine ⟨fun x hx => ?_, fun j f n y hf hy => ?_, fun x hx f hf hdf hn => ?_, fun x hx f hf hdf hn => ?_, fun j f y hf hdf hl hy hlt => ?_, fun j f hf hdf => ?_⟩
  · rcases List.mem_append.1 hx with hx | hx
    · obtain ⟨f, hf, hg⟩ := h.get x hx
      by_cases q : x.task = k
      · rw [q, hk] at hf
        cases hf
        refine ⟨_, by rw [hts, if_pos q], ?_⟩
        show (e.tries ++ _)[x.num]? = _
        rw [List.getElem?_append_left (List.getElem?_eq_some_iff.1 hg).1]
        exact hg
      · exact ⟨f, by rw [hts, if_neg q]; exact hf, hg⟩
    · rw [List.mem_singleton.1 hx]
      refine ⟨_, by rw [hts, if_pos rfl], ?_⟩
      show (e.tries ++ _)[e.tries.length]? = _
      rw [List.getElem?_append_right (Nat.le_refl _), Nat.sub_self]
      rfl
  · rw [hts] at hf
    split at hf
    · rename_i q
      subst q
      cases hf
      change (e.tries ++ _)[n]? = some y at hy
      by_cases hn : n < e.tries.length
      · rw [List.getElem?_append_left hn] at hy
        obtain ⟨o, ho⟩ := h.all _ e n y hk hy
        exact ⟨o, List.mem_append_left _ ho⟩
      · rw [List.getElem?_append_right (by omega)] at hy
        have h0 := (List.getElem?_eq_some_iff.1 hy).1
        have hz : n - e.tries.length = 0 := by simpa using h0
        rw [hz] at hy
        have hn2 : n = e.tries.length := by omega
        cases hy
        exact ⟨false, List.mem_append_right _ (by rw [List.mem_singleton, hn2])⟩
    · obtain ⟨o, ho⟩ := h.all j f n y hf hy
      exact ⟨o, List.mem_append_left _ ho⟩
  · rw [hts] at hf
    rcases List.mem_append.1 hx with hx | hx
    · split at hf
      · rename_i q
        cases hf
        change x.num + 1 < (e.tries ++ _).length at hn
        rw [List.length_append, List.length_singleton] at hn
        have he : D.ts x.task = some e := by rw [q]; exact hk
        by_cases hn2 : x.num + 1 < e.tries.length
        · exact h.old x hx e he hd hn2
        · have hn3 : x.num + 1 = e.tries.length := by omega
          rcases h.lst x hx e he hd hn3 with h1 | h1
          · cases hl : e.lost
            · obtain ⟨e2, he2, hg⟩ := h.get x hx
              rw [he] at he2
              cases he2
              refine .inr ?_
              show x.tick + D.timeout ≤ D.tick
              have : ¬ D.run e D.tick = true := by rw [hr]; decide
              rw [run_eq] at this
              refine Int.not_lt.1 (fun hlt => this ⟨hd, hl, _, last_at hg hn3, hlt⟩)
            · exact .inl (h1.trans hl)
          · exact .inr h1
      · exact h.old x hx f hf hdf hn
    · rw [List.mem_singleton.1 hx] at hf hn
      rw [if_pos rfl] at hf
      cases hf
      change e.tries.length + 1 < (e.tries ++ _).length at hn
      rw [List.length_append, List.length_singleton] at hn
      omega
  · rw [hts] at hf
    rcases List.mem_append.1 hx with hx | hx
    · split at hf
      · rename_i q
        cases hf
        change x.num + 1 = (e.tries ++ _).length at hn
        rw [List.length_append, List.length_singleton] at hn
        obtain ⟨e2, he2, hg⟩ := h.get x hx
        rw [q, hk] at he2
        cases he2
        have := (List.getElem?_eq_some_iff.1 hg).1
        omega
      · exact h.lst x hx f hf hdf hn
    · rw [List.mem_singleton.1 hx] at hf ⊢
      rw [if_pos rfl] at hf
      cases hf
      exact .inl rfl
  · rw [hts] at hf
    have hws : (D.give i v D.tick k e).ws = D.ws.set i ⟨v.dead, true, k⟩ := rfl
    rw [hws]
    split at hf
    · rename_i q
      cases hf
      change (e.tries ++ _).getLast? = some y at hy
      rw [List.getLast?_append] at hy
      have hy : some (((i : Int), D.tick)) = some y := hy
      cases hy
      rw [Int.toNat_natCast, List.getElem?_set_self hi]
      exact ⟨_, rfl, rfl, q.symm⟩
    · rename_i q
      obtain ⟨u, hu, hh, htk⟩ := h.own j f y hf hdf hl hy hlt
      by_cases qi : y.1.toNat = i
      · rw [qi, hv] at hu
        cases hu
        have hm := List.mem_of_getLast? hy
        have h0 := (ok.tri j f hf y hm).1.1
        have : D.busy v (i : Int) D.tick = true := (busy_eq D v (i : Int) D.tick).2 ⟨hh, f, y, by rw [htk]; exact hf, hy, by omega, (run_eq D f D.tick).2 ⟨hdf, hl, y, hy, hlt⟩⟩
        rw [hb] at this
        cases this
      · rw [List.getElem?_set_ne (fun q => qi q.symm)]
        exact ⟨u, hu, hh, htk⟩
  · rw [hts] at hf
    split at hf
    · cases hf
      exact absurd hdf (by simp [hd])
    · exact h.ans j f hf hdf
def mineLast (e : En) (i : Nat) : Bool := match e.tries.getLast? with
  | none => false
  | some y => decide (y.1 = (i : Int))
theorem lose_eq (D : Pl) (i : Nat) (v : Wk) : D.lose i v = { D with ts := fun j => (D.ts j).map fun e => { e with lost := e.lost || (v.has && decide (v.task = j) && mineLast e i) } } := by
  have key : ∀ (ts : Int → Option En), (∀ j, ts j = (D.ts j).map fun e => { e with lost := e.lost || (v.has && decide (v.task = j) && mineLast e i) }) → ({ D with ts := ts } : Pl) = { D with ts := fun j => (D.ts j).map fun e => { e with lost := e.lost || (v.has && decide (v.task = j) && mineLast e i) } } := fun ts h => by rw [funext h]
  unfold Pl.lose
  by_cases hh : v.has = true
  · rw [if_pos hh]
    cases he : D.ts v.task with
    | none =>
      refine key D.ts (fun j => ?_)
      by_cases q : v.task = j
      · rw [← q, he]; rfl
      · rcases D.ts j with _ | ⟨b, t, l, d, a⟩ <;> simp [q]
    | some e =>
      cases hl : e.tries.getLast? with
      | none =>
        simp only [hl]
        refine key D.ts (fun j => ?_)
        by_cases q : v.task = j
        · rw [← q, he]; simp [mineLast, hl]
        · rcases D.ts j with _ | ⟨b, t, l, d, a⟩ <;> simp [q]
      | some y =>
        simp only [hl]
        split
        · rename_i hy
          refine key _ (fun j => ?_)
          by_cases q : v.task = j
          · rw [if_pos q.symm, ← q, he]; simp [mineLast, hl, hy, hh]
          · rw [if_neg (fun e => q e.symm)]
            rcases D.ts j with _ | ⟨b, t, l, d, a⟩ <;> simp [q]
        · rename_i hy
          refine key D.ts (fun j => ?_)
          by_cases q : v.task = j
          · rw [← q, he]; simp [mineLast, hl, hy]
          · rcases D.ts j with _ | ⟨b, t, l, d, a⟩ <;> simp [q]
  · rw [if_neg hh]
    exact key D.ts (fun j => by rcases D.ts j with _ | ⟨b, t, l, d, a⟩ <;> simp [hh])
def Tr.mark (i : Int) (x : Tr) : Tr := { x with over := x.over || decide (x.worker = i) }
/-- A worker dies. -/
theorem Log.die (h : Log D L) (ok : POk D) (hv : D.ws[i]? = some v) : Log { D.lose i v with ws := D.ws.set i ⟨true, false, v.task⟩ } (L.map (Tr.mark (i : Int))) := by
  have hi := (List.getElem?_eq_some_iff.1 hv).1
  rw [lose_eq]
  have old : ∀ j f, ((D.ts j).map fun e => { e with lost := e.lost || (v.has && decide (v.task = j) && mineLast e i) }) = some f → ∃ e, D.ts j = some e ∧ f = { e with lost := e.lost || (v.has && decide (v.task = j) && mineLast e i) } := fun j f hf => by
    cases he : D.ts j with
    | none => rw [he] at hf; cases hf
    | some e => rw [he] at hf; cases hf; exact ⟨e, rfl, rfl⟩
  refine ⟨fun x hx => ?_, fun j f n y hf hy => ?_, fun x hx f hf hdf hn => ?_, fun x hx f hf hdf hn => ?_, fun j f y hf hdf hl hy hlt => ?_, fun j f hf hdf => ?_⟩
  · obtain ⟨x, hxL, rfl⟩ := List.mem_map.1 hx
    obtain ⟨e, he, hg⟩ := h.get x hxL
    exact ⟨{ e with lost := e.lost || (v.has && decide (v.task = x.task) && mineLast e i) }, by show (D.ts x.task).map _ = _; rw [he]; rfl, hg⟩
  · obtain ⟨e, he, rfl⟩ := old j f hf
    obtain ⟨o, ho⟩ := h.all j e n y he hy
    exact ⟨_, List.mem_map.2 ⟨_, ho, rfl⟩⟩
  · obtain ⟨x, hxL, rfl⟩ := List.mem_map.1 hx
    obtain ⟨e, he, rfl⟩ := old _ f hf
    exact (h.old x hxL e he hdf hn).imp (fun q => by show (x.over || _) = true; rw [q]; rfl) id
  · obtain ⟨x, hxL, rfl⟩ := List.mem_map.1 hx
    obtain ⟨e, he, rfl⟩ := old _ f hf
    have he : D.ts x.task = some e := he
    have hn : x.num + 1 = e.tries.length := hn
    obtain ⟨e2, he2, hg⟩ := h.get x hxL
    rw [he] at he2
    cases he2
    have hlast := last_at hg hn
    have h1 := h.lst x hxL e he hdf hn
    show (x.over || decide (x.worker = (i : Int))) = (e.lost || (v.has && decide (v.task = x.task) && mineLast e i)) ∨ _
    have hml : mineLast e i = decide (x.worker = (i : Int)) := by unfold mineLast; rw [hlast]
    rw [hml]
    by_cases hw : x.worker = (i : Int)
    · rcases h1 with h1 | h1
      · cases hlo : e.lost
        · by_cases hx2 : D.tick < x.tick + D.timeout
          · obtain ⟨u, hu, hh, htk⟩ := h.own _ e _ he hdf hlo hlast hx2
            have hu : D.ws[x.worker.toNat]? = some u := hu
            rw [hw, Int.toNat_natCast, hv] at hu
            cases hu
            exact .inl (by simp [hw, hh, htk])
          · exact .inr (Int.not_lt.1 hx2)
        · exact .inl (by simp [hw])
      · exact .inr h1
    · refine h1.imp (fun q => ?_) id
      simp [hw, q]
  · obtain ⟨e, he, rfl⟩ := old j f hf
    have hl2 : (e.lost || (v.has && decide (v.task = j) && mineLast e i)) = false := hl
    rw [Bool.or_eq_false_iff] at hl2
    obtain ⟨u, hu, hh, htk⟩ := h.own j e y he hdf hl2.1 hy hlt
    show ∃ u, (D.ws.set i ⟨true, false, v.task⟩)[y.1.toNat]? = some u ∧ _
    by_cases qi : y.1.toNat = i
    · rw [qi, hv] at hu
      cases hu
      have h0 := (ok.tri j e he y (List.mem_of_getLast? hy)).1.1
      have hml : mineLast e i = true := by
        have hy : e.tries.getLast? = some y := hy
        unfold mineLast
        rw [hy]
        exact decide_eq_true (by omega)
      rw [hh, htk, hml] at hl2
      simp at hl2
    · rw [List.getElem?_set_ne (fun q => qi q.symm)]
      exact ⟨u, hu, hh, htk⟩
  · obtain ⟨e, he, rfl⟩ := old j f hf
    exact h.ans j e he hdf
/-- A worker's life changes. -/
theorem Log.alive (h : Log D L) (hv : D.ws[i]? = some v) (b : Bool) : Log { D with ws := D.ws.set i { v with dead := b } } L := by
  have hi := (List.getElem?_eq_some_iff.1 hv).1
  refine ⟨h.get, h.all, h.old, h.lst, fun j f y hf hdf hl hy hlt => ?_, h.ans⟩
  obtain ⟨u, hu, hh, htk⟩ := h.own j f y hf hdf hl hy hlt
  show ∃ u, (D.ws.set i { v with dead := b })[y.1.toNat]? = some u ∧ _
  by_cases qi : y.1.toNat = i
  · rw [qi, hv] at hu
    cases hu
    rw [qi, List.getElem?_set_self hi]
    exact ⟨_, rfl, hh, htk⟩
  · rw [List.getElem?_set_ne (fun q => qi q.symm)]
    exact ⟨u, hu, hh, htk⟩
/-- What happens to the list of all tries. -/
def Pl.logAsk (D : Pl) (x t : Int) (L : List Tr) : List Tr := if (D.ask x t).1.is = true then L ++ [⟨(D.ask x t).1.id, (D.ask x t).1.n.toNat, x, t, false⟩] else L
def Pl.logDie (D : Pl) (x t : Int) (L : List Tr) : List Tr := if (D.die x t).1 = 0 then L.map (Tr.mark x) else L
theorem pickIn_some {l : List Int} (h : D.pickIn t l = some (k, e)) : k ∈ l ∧ D.ts k = some e ∧ e.done = false ∧ D.run e t = false := by
  unfold Pl.pickIn at h
  obtain ⟨j, hj, hje⟩ := List.exists_of_findSome?_eq_some h
  cases hts : D.ts j with
  | none => rw [hts] at hje; cases hje
  | some f =>
    rw [hts] at hje
    simp only at hje
    split at hje
    · cases hje
    · rename_i hc
      cases hje
      refine ⟨hj, hts, ?_, ?_⟩
      · cases q : e.done
        · rfl
        · exact absurd (by simp [q]) hc
      · cases q : D.run e t
        · rfl
        · exact absurd (by simp [q]) hc
theorem Log.ask (h : Log D L) (ok : POk D) (x t : Int) : Log (D.ask x t).2 (D.logAsk x t L) := by
  unfold Pl.logAsk
  obtain ⟨O, hO⟩ : ∃ O, D.ask x t = O := ⟨_, rfl⟩
  rw [hO]
  unfold Pl.ask at hO
  split at hO
  · subst hO; exact h
  · rename_i hw
    obtain ⟨hn0, ht0, ht1, ht2⟩ := wrong_ok (D := D) (x := x) (t := t) (by simpa using hw)
    obtain ⟨i, v, rfl, hi, hv⟩ := yes_worker hn0
    rw [Int.toNat_natCast, hv] at hO
    simp only at hO
    split at hO
    · subst hO; exact h
    · split at hO
      · subst hO; exact h
      · rename_i hb
        split at hO
        · subst hO; exact h.later ht2
        · rename_i k e hp
          subst hO
          obtain ⟨_, hts, hd, hr⟩ := pickIn_some hp
          have h1 := (h.later ht2).give (i := i) (v := v) (k := k) (e := e) ⟨ok.ord, ok.mem, ok.idr, ok.many, ok.tmo, ⟨ht0, ht1⟩, ok.wsl, ok.bod, fun k e hk y hy => ⟨(ok.tri k e hk y hy).1, (ok.tri k e hk y hy).2.1, Int.le_trans (ok.tri k e hk y hy).2.2 ht2⟩, ok.has⟩ hv hts hd hr (by cases q : D.busy v (i : Int) t; exact q; exact absurd q hb)
          show Log _ (if true = true then L ++ [⟨k, ((e.tries.length : Int)).toNat, (i : Int), t, false⟩] else L)
          rw [if_pos rfl, Int.toNat_natCast]
          exact h1
theorem Log.died (h : Log D L) (ok : POk D) (x t : Int) : Log (D.die x t).2 (D.logDie x t L) := by
  unfold Pl.logDie
  obtain ⟨O, hO⟩ : ∃ O, D.die x t = O := ⟨_, rfl⟩
  rw [hO]
  unfold Pl.die at hO
  split at hO
  · rename_i hw
    subst hO
    rw [if_neg hw]
    exact h
  · rename_i hw
    obtain ⟨hn0, ht0, ht1, ht2⟩ := wrong_ok (D := D) (x := x) (t := t) (by simpa using hw)
    obtain ⟨i, v, rfl, hi, hv⟩ := yes_worker hn0
    rw [Int.toNat_natCast, hv] at hO
    simp only at hO
    split at hO
    · subst hO
      rw [if_neg (by show ¬ (20 : Int) = 0; decide)]
      exact h
    · subst hO
      rw [if_pos rfl]
      have h1 := (h.later ht2).die (i := i) (v := v) ⟨ok.ord, ok.mem, ok.idr, ok.many, ok.tmo, ⟨ht0, ht1⟩, ok.wsl, ok.bod, fun k e hk y hy => ⟨(ok.tri k e hk y hy).1, (ok.tri k e hk y hy).2.1, Int.le_trans (ok.tri k e hk y hy).2.2 ht2⟩, ok.has⟩ hv
      rw [lose_eq] at h1 ⊢
      exact h1
theorem Log.revive (h : Log D L) (x : Int) : Log (D.revive x).2 L := by
  unfold Pl.revive
  split
  · exact h
  · split
    · exact h
    · rename_i v hv
      split
      · exact h.alive hv false
      · exact h
theorem Log.add (h : Log D L) (id : Int) (b : List UInt8) : Log (D.add id b).2 L := by
  unfold Pl.add
  split
  · exact h
  · split
    · exact h
    · split
      · exact h
      · rename_i hn
        exact h.added hn
theorem Log.answer (h : Log D L) (task worker tr : Int) (b : List UInt8) (t : Int) : Log (D.answer task worker tr b t).2.2 L := by
  unfold Pl.answer
  split
  · exact h
  · rename_i hw
    obtain ⟨hn0, ht0, ht1, ht2⟩ := wrong_ok (D := D) (x := worker) (t := t) (by simpa using hw)
    split
    · exact h
    · rename_i e he
      split
      · exact h
      · split
        · exact h
        · split
          · exact h.later ht2
          · exact (h.later ht2).answered he rfl
end
end Go.Proofs.Ytfdacckkdjpjhaa

/- Package pool: the model in memory. -/
namespace Go.Proofs.Ytfdacckkdjpjhaa
open Go.RowKit

structure Jb where
  id : Int
  body : List UInt8
  n : Int
  ansd : Bool
  worker : Int
  tr : Int
  reply : List UInt8
structure Md where
  alive : List Bool
  tmo : Int
  tick : Int
  jobs : List Jb
  tries : List Tr
/-- The job of a task. -/
def jbOf (D : Pl) (k : Int) : Jb := match D.ts k with
  | none => ⟨k, [], 0, false, 0, 0, []⟩
  | some e => ⟨k, e.body, (e.tries.length : Int), e.done, e.ans.worker, e.ans.tr, e.ans.body⟩
/-- The model of a pool. -/
def mdOf (D : Pl) (L : List Tr) : Md := ⟨D.ws.map (fun v => !v.dead), D.timeout, D.tick, D.ids.map (jbOf D), L⟩
/-- A job and where its slices lie. -/
structure JV where
  j : Jb
  bv : Value
  rv : Value
def JV.cells (x : JV) : List Value := [.int .i64 x.j.id, x.bv, .int .i64 x.j.n, .bool x.j.ansd, .int .i64 x.j.worker, .int .i64 x.j.tr, x.rv]
def jcells (l : List JV) : List Value := l.flatMap JV.cells
def Tr.cells (x : Tr) : List Value := [.int .i64 x.task, .int .i64 (x.num : Int), .int .i64 x.worker, .int .i64 x.tick, .bool x.over]
def trcells (l : List Tr) : List Value := l.flatMap Tr.cells
theorem flat_len {α : Type} (f : α → List Value) (n : Nat) (hf : ∀ x, (f x).length = n) : ∀ l : List α, (l.flatMap f).length = l.length * n
  | [] => by simp
  | x :: l => by rw [List.flatMap_cons, List.length_append, hf, flat_len f n hf l, List.length_cons, Nat.succ_mul]; omega
theorem flat_at {α : Type} (f : α → List Value) (n : Nat) (hf : ∀ x, (f x).length = n) : ∀ (l : List α) (i j : Nat) (x : α), l[i]? = some x → j < n → (l.flatMap f)[i * n + j]? = (f x)[j]?
  | [], _, _, _, h, _ => by cases h
  | y :: l, 0, j, x, h, hj => by
    cases h
    rw [List.flatMap_cons, List.getElem?_append_left (by rw [hf]; omega)]
    congr 1
    omega
  | y :: l, i + 1, j, x, h, hj => by
    rw [List.flatMap_cons, List.getElem?_append_right (by rw [hf, Nat.succ_mul]; omega), hf, ← flat_at f n hf l i j x (by simpa using h) hj]
    congr 1
    rw [Nat.succ_mul]
    omega
theorem flat_set {α : Type} (f : α → List Value) (n : Nat) (hf : ∀ x, (f x).length = n) : ∀ (l : List α) (i j : Nat) (x x' : α) (u : Value), l[i]? = some x → j < n → (f x).set j u = f x' → (l.flatMap f).set (i * n + j) u = (l.set i x').flatMap f
  | [], _, _, _, _, _, h, _, _ => by cases h
  | y :: l, 0, j, x, x', u, h, hj, he => by
    cases h
    rw [List.flatMap_cons, List.set_append_left _ _ (by rw [hf]; omega), List.set_cons_zero, List.flatMap_cons, ← he]
    congr 2
    omega
  | y :: l, i + 1, j, x, x', u, h, hj, he => by
    rw [List.flatMap_cons, List.set_append_right _ _ (by rw [hf, Nat.succ_mul]; omega), hf, List.set_cons_succ, List.flatMap_cons, ← flat_set f n hf l i j x x' u (by simpa using h) hj he]
    congr 2
    rw [Nat.succ_mul]
    omega
theorem jlen (x : JV) : x.cells.length = 7 := rfl
theorem trlen (x : Tr) : x.cells.length = 5 := rfl
def mdO (M : Md) (av jv tv : Value) : Obj := .cells #[av, .int .i64 M.tmo, .int .i64 M.tick, jv, tv] 130 (0, 0)
/-- The model M in block q; its rows av, jv, tv; its jobs J. Y: what is written; R: the bodies. -/
structure MX (w : World) (q : Nat) (av jv tv : Value) (J : List JV) (Y R : Nat → Prop) (M : Md) : Prop where
  blk : w.heap[q]? = some (mdO M av jv tv)
  al : w.ownsRow 0 4 1 av M.alive.length (M.alive.map Value.bool)
  jo : w.ownsRow 0 133 7 jv J.length (jcells J)
  tr : w.ownsRow 0 135 5 tv M.tries.length (trcells M.tries)
  js : J.map (·.j) = M.jobs
  bd : ∀ x ∈ J, (Rv w x.bv x.j.body.length (x.j.body.map vB) ∧ ∀ b, x.bv.ownBlock = some b → R b) ∧ Rv w x.rv x.j.reply.length (x.j.reply.map vB) ∧ ∀ b, x.rv.ownBlock = some b → R b
  yq : Y q
  ya : ∀ b, av.ownBlock = some b → Y b
  yj : ∀ b, jv.ownBlock = some b → Y b
  yt : ∀ b, tv.ownBlock = some b → Y b
  sep : ∀ b, Y b → ¬ R b
  yl : ∀ b, Y b → b < w.heap.size
  rl : ∀ b, R b → b < w.heap.size
def MAt (w : World) (q : Nat) (Y R : Nat → Prop) (M : Md) : Prop := ∃ av jv tv J, MX w q av jv tv J Y R M
section
variable {w w' : World} {q : Nat} {av jv tv : Value} {J : List JV} {Y R Z X' : Nat → Prop} {M : Md}
theorem MX.lt (h : MX w q av jv tv J Y R M) : q < w.heap.size := h.yl q h.yq
theorem MX.c0 (h : MX w q av jv tv J Y R M) : w.cell? ⟨q, 0, none⟩ = some av := by have := h.blk; unfold mdO at this; simp [World.cell?, this]
theorem MX.c1 (h : MX w q av jv tv J Y R M) : w.cell? ⟨q, 1, none⟩ = some (.int .i64 M.tmo) := by have := h.blk; unfold mdO at this; simp [World.cell?, this]
theorem MX.c2 (h : MX w q av jv tv J Y R M) : w.cell? ⟨q, 2, none⟩ = some (.int .i64 M.tick) := by have := h.blk; unfold mdO at this; simp [World.cell?, this]
theorem MX.c3 (h : MX w q av jv tv J Y R M) : w.cell? ⟨q, 3, none⟩ = some jv := by have := h.blk; unfold mdO at this; simp [World.cell?, this]
theorem MX.c4 (h : MX w q av jv tv J Y R M) : w.cell? ⟨q, 4, none⟩ = some tv := by have := h.blk; unfold mdO at this; simp [World.cell?, this]
theorem MX.fz (h : MX w q av jv tv J Y R M) (j : Nat) : w.frozen? ⟨q, j, none⟩ = false := by have := h.blk; unfold mdO at this; simp [World.frozen?, this]
theorem MX.kept (h : MX w q av jv tv J Y R M) (hs : w.heap.size ≤ w'.heap.size) (hY : ∀ b, Y b → w'.heap[b]? = w.heap[b]?) (hR : ∀ b, R b → w'.heap[b]? = w.heap[b]?) : MX w' q av jv tv J Y R M :=
  ⟨(hY q h.yq).trans h.blk, own_same h.al (fun b hb => hY b (h.ya b hb)), own_same h.jo (fun b hb => hY b (h.yj b hb)), own_same h.tr (fun b hb => hY b (h.yt b hb)), h.js,
    fun x hx => ⟨⟨rvSame (h.bd x hx).1.1 (fun g _ hg => hR g ((h.bd x hx).1.2 g hg)), (h.bd x hx).1.2⟩, rvSame (h.bd x hx).2.1 (fun g _ hg => hR g ((h.bd x hx).2.2 g hg)), (h.bd x hx).2.2⟩,
    h.yq, h.ya, h.yj, h.yt, h.sep, fun b hb => Nat.lt_of_lt_of_le (h.yl b hb) hs, fun b hb => Nat.lt_of_lt_of_le (h.rl b hb) hs⟩
theorem MX.later (h : MX w q av jv tv J Y R M) (b : Below w.heap.size w w') : MX w' q av jv tv J Y R M := h.kept b.size (fun x hx => b.block x (h.yl x hx)) (fun x hx => b.block x (h.rl x hx))
theorem MX.other (h : MX w q av jv tv J Y R M) (S : DStep Z X' w w') (hY : ∀ b, Y b → ¬ Z b) (hR : ∀ b, R b → ¬ Z b) : MX w' q av jv tv J Y R M := h.kept S.size (fun x hx => S.block x (h.yl x hx) (hY x hx)) (fun x hx => S.block x (h.rl x hx) (hR x hx))
theorem MAt.later (h : MAt w q Y R M) (b : Below w.heap.size w w') : MAt w' q Y R M := by obtain ⟨_, _, _, _, h⟩ := h; exact ⟨_, _, _, _, h.later b⟩
theorem MAt.other (h : MAt w q Y R M) (S : DStep Z X' w w') (hY : ∀ b, Y b → ¬ Z b) (hR : ∀ b, R b → ¬ Z b) : MAt w' q Y R M := by obtain ⟨_, _, _, _, h⟩ := h; exact ⟨_, _, _, _, h.other S hY hR⟩
theorem MAt.yl (h : MAt w q Y R M) : ∀ b, Y b → b < w.heap.size := by obtain ⟨_, _, _, _, h⟩ := h; exact h.yl
theorem MAt.rl (h : MAt w q Y R M) : ∀ b, R b → b < w.heap.size := by obtain ⟨_, _, _, _, h⟩ := h; exact h.rl
theorem MX.len (h : MX w q av jv tv J Y R M) : J.length = M.jobs.length := by rw [← h.js, List.length_map]
/-- A row's slice, and its cells. -/
theorem row_at {w : World} {e : TypeId} {size n : Nat} {v : Value} {xs : List Value} (h : w.ownsRow 0 e size v n xs) (hn : 0 < n) : ∃ g c, v = .slice (some ⟨g, 0, none⟩) n c ∧ n ≤ c ∧ c ≤ maxLen ∧ ∀ j u, xs[j]? = some u → w.cell? ⟨g, j, none⟩ = some u := by
  rcases h.2 with ⟨e, h0⟩ | ⟨g, cap, cur, e, _, hg, hc, hcm, _⟩
  · omega
  · subst e
    have hcell := h.cells (g := g) rfl
    exact ⟨g, _, rfl, hc, hcm, fun j u hj => by
      have := hcell j u hj
      rwa [show ((⟨g, 0, none⟩ : Addr).add j) = ⟨g, j, none⟩ from by unfold Addr.add; split <;> simp_all] at this⟩
theorem MX.job (h : MX w q av jv tv J Y R M) {i : Nat} {x : JV} (hx : J[i]? = some x) : ∃ g c, jv = .slice (some ⟨g, 0, none⟩) J.length c ∧ J.length ≤ c ∧ c ≤ maxLen ∧ w.cell? ⟨g, i * 7, none⟩ = some (.int .i64 x.j.id) ∧ w.cell? ⟨g, i * 7 + 1, none⟩ = some x.bv ∧ w.cell? ⟨g, i * 7 + 2, none⟩ = some (.int .i64 x.j.n) ∧
    w.cell? ⟨g, i * 7 + 3, none⟩ = some (.bool x.j.ansd) ∧ w.cell? ⟨g, i * 7 + 4, none⟩ = some (.int .i64 x.j.worker) ∧ w.cell? ⟨g, i * 7 + 5, none⟩ = some (.int .i64 x.j.tr) ∧ w.cell? ⟨g, i * 7 + 6, none⟩ = some x.rv := by
  obtain ⟨g, c, hj, hc, hm, hcell⟩ := row_at h.jo (by have := (List.getElem?_eq_some_iff.1 hx).1; omega)
  have hf := fun k => flat_at JV.cells 7 jlen J i k x hx
  exact ⟨g, c, hj, hc, hm, hcell _ _ (hf 0 (by omega)), hcell _ _ (hf 1 (by omega)), hcell _ _ (hf 2 (by omega)), hcell _ _ (hf 3 (by omega)), hcell _ _ (hf 4 (by omega)), hcell _ _ (hf 5 (by omega)), hcell _ _ (hf 6 (by omega))⟩
theorem MX.try (h : MX w q av jv tv J Y R M) {i : Nat} {x : Tr} (hx : M.tries[i]? = some x) : ∃ g c, tv = .slice (some ⟨g, 0, none⟩) M.tries.length c ∧ M.tries.length ≤ c ∧ c ≤ maxLen ∧ w.cell? ⟨g, i * 5, none⟩ = some (.int .i64 x.task) ∧ w.cell? ⟨g, i * 5 + 1, none⟩ = some (.int .i64 (x.num : Int)) ∧ w.cell? ⟨g, i * 5 + 2, none⟩ = some (.int .i64 x.worker) ∧
    w.cell? ⟨g, i * 5 + 3, none⟩ = some (.int .i64 x.tick) ∧ w.cell? ⟨g, i * 5 + 4, none⟩ = some (.bool x.over) := by
  obtain ⟨g, c, hj, hc, hm, hcell⟩ := row_at h.tr (by have := (List.getElem?_eq_some_iff.1 hx).1; omega)
  have hf := fun k => flat_at Tr.cells 5 trlen M.tries i k x hx
  exact ⟨g, c, hj, hc, hm, hcell _ _ (hf 0 (by omega)), hcell _ _ (hf 1 (by omega)), hcell _ _ (hf 2 (by omega)), hcell _ _ (hf 3 (by omega)), hcell _ _ (hf 4 (by omega))⟩
theorem MX.live (h : MX w q av jv tv J Y R M) {i : Nat} {b : Bool} (hx : M.alive[i]? = some b) : ∃ g c, av = .slice (some ⟨g, 0, none⟩) M.alive.length c ∧ M.alive.length ≤ c ∧ w.cell? ⟨g, i, none⟩ = some (.bool b) := by
  obtain ⟨g, c, hj, hc, hm, hcell⟩ := row_at h.al (by have := (List.getElem?_eq_some_iff.1 hx).1; omega)
  exact ⟨g, c, hj, hc, hcell _ _ (by rw [List.getElem?_map, hx]; rfl)⟩
end
end Go.Proofs.Ytfdacckkdjpjhaa
