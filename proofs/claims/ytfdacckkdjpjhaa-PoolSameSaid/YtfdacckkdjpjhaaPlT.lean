/- The law PoolOnce: what its lists say of the pool. -/
import Derived.Test.YtfdacckkdjpjhaaPlO
namespace Go.Proofs.Ytfdacckkdjpjhaa
open Go.RowKit

/-- What the law knows before its i-th operation. -/
structure OnceI (lim : Int) (i : Nat) (D : Pl) (L : List Tr) (a : List Int) : Prop where
  log : Log D L
  tl : TL i D
  tmo : D.timeout = lim
  tck : D.tick ≤ 3 * (i : Int)
  ws : D.ws.length = 4
  ids : ∀ x ∈ D.ids, x ≤ 11
  al : a.length = 16
  an : ∀ (j : Nat) (x : Int), a[j]? = some x → (x = 0 ∧ ∀ e, D.ts (j : Int) = some e → e.done = false) ∨ (1 ≤ x ∧ x ≤ (i : Int) ∧ ∃ e, D.ts (j : Int) = some e ∧ e.done = true ∧ e.ans.body = [UInt8.ofNat x.toNat])
  Ll : L.length ≤ i
section
variable {lim : Int} {i : Nat} {D : Pl} {L : List Tr} {a : List Int}
theorem OnceI.start (n : Nat) (hn : n = 4) (t : Int) : OnceI t 0 (newPl n t) [] (List.replicate 16 0) :=
  ⟨Log.new n t, TL.new n t, rfl, by show (0 : Int) ≤ _; omega, by rw [hn]; rfl, (fun _ h => by cases h), List.length_replicate .., fun j x hx => .inl ⟨(List.eq_of_mem_replicate (List.mem_of_getElem? hx)), fun e h => by cases h⟩, Nat.le_refl _⟩
/-- Where no task's state has changed but for its tries. -/
theorem an_same {D' : Pl} {j : Nat} {x : Int} (hs : ∀ k e', D'.ts k = some e' → ∃ e, D.ts k = some e ∧ e'.done = e.done) (hs2 : ∀ k e, D.ts k = some e → ∃ e', D'.ts k = some e' ∧ e'.done = e.done ∧ e'.ans = e.ans)
    (h : (x = 0 ∧ ∀ e, D.ts (j : Int) = some e → e.done = false) ∨ (1 ≤ x ∧ x ≤ (i : Int) ∧ ∃ e, D.ts (j : Int) = some e ∧ e.done = true ∧ e.ans.body = [UInt8.ofNat x.toNat])) :
    (x = 0 ∧ ∀ e, D'.ts (j : Int) = some e → e.done = false) ∨ (1 ≤ x ∧ x ≤ ((i + 1 : Nat) : Int) ∧ ∃ e, D'.ts (j : Int) = some e ∧ e.done = true ∧ e.ans.body = [UInt8.ofNat x.toNat]) := by
  rcases h with ⟨h1, h2⟩ | ⟨h1, h2, e, he, hd, hb⟩
  · refine .inl ⟨h1, fun e' he' => ?_⟩
    obtain ⟨e, he, hd⟩ := hs _ e' he'
    rw [hd]
    exact h2 e he
  · obtain ⟨e', he', hd', ha'⟩ := hs2 _ e he
    exact .inr ⟨h1, by omega, e', he', by rw [hd', hd], by rw [ha']; exact hb⟩
theorem OnceI.next (h : OnceI lim i D L a) {D' : Pl} {L' : List Tr} (hl : Log D' L') (ht : TL (i + 1) D') (h1 : D'.timeout = D.timeout) (h2 : D'.tick ≤ D.tick + 3) (h3 : D'.ws.length = D.ws.length) (h4 : ∀ x ∈ D'.ids, x ≤ 11)
    (hs : ∀ k e', D'.ts k = some e' → (∃ e, D.ts k = some e ∧ e'.done = e.done) ∨ (D.ts k = none ∧ e'.done = false)) (hs2 : ∀ k e, D.ts k = some e → ∃ e', D'.ts k = some e' ∧ e'.done = e.done ∧ e'.ans = e.ans) (hL : L'.length ≤ i + 1) : OnceI lim (i + 1) D' L' a := by
  refine ⟨hl, ht, h1.trans h.tmo, by have := h.tck; omega, h3.trans h.ws, h4, h.al, fun j x hx => ?_, hL⟩
  rcases h.an j x hx with ⟨q1, q2⟩ | ⟨q1, q2, e, he, hd, hb⟩
  · refine .inl ⟨q1, fun e' he' => ?_⟩
    rcases hs _ e' he' with ⟨e, he, hd⟩ | ⟨_, hd⟩
    · rw [hd]; exact q2 e he
    · exact hd
  · obtain ⟨e', he', hd', ha'⟩ := hs2 _ e he
    exact .inr ⟨q1, by omega, e', he', by rw [hd', hd], by rw [ha']; exact hb⟩
theorem OnceI.same (h : OnceI lim i D L a) : OnceI lim (i + 1) D L a :=
  h.next h.log (h.tl.mono (Nat.le_succ i)) rfl (by omega) rfl h.ids (fun k e he => .inl ⟨e, he, rfl⟩) (fun k e he => ⟨e, he, rfl, rfl⟩) (by have := h.Ll; omega)
theorem OnceI.later (h : OnceI lim i D L a) {t : Int} (ht : D.tick ≤ t) (ht2 : t ≤ D.tick + 3) : OnceI lim (i + 1) { D with tick := t } L a :=
  h.next (h.log.later ht) (h.tl.mono (Nat.le_succ i)) rfl ht2 rfl h.ids (fun k e he => .inl ⟨e, he, rfl⟩) (fun k e he => ⟨e, he, rfl, rfl⟩) (by have := h.Ll; omega)
theorem OnceI.add (h : OnceI lim i D L a) (id : Int) (hid : id ≤ 11) (b : List UInt8) : OnceI lim (i + 1) (D.add id b).2 L a ∧ (D.add id b).2.tick = D.tick := by
  have hl := h.log.add id b
  have ht := (h.tl.add id b).mono (Nat.le_succ i)
  unfold Pl.add at hl ht ⊢
  split
  · exact ⟨h.same, rfl⟩
  · rename_i h1
    rw [if_neg h1] at hl ht
    split
    · exact ⟨h.same, rfl⟩
    · rename_i h2
      rw [if_neg h2] at hl ht
      split
      · exact ⟨h.same, rfl⟩
      · rename_i hn
        rw [hn] at hl ht
        refine ⟨h.next hl ht rfl (by show D.tick ≤ D.tick + 3; omega) rfl (fun x hx => ?_) (fun k e' he' => ?_) (fun k e he => ?_) (by have := h.Ll; omega), rfl⟩
        · rcases (insI_mem id x D.ids).1 hx with rfl | hx
          · exact hid
          · exact h.ids x hx
        · change (if k = id then some (freshE b) else D.ts k) = some e' at he'
          split at he'
          · rename_i q
            cases he'
            exact .inr ⟨by rw [q]; exact hn, rfl⟩
          · exact .inl ⟨e', he', rfl⟩
        · refine ⟨e, ?_, rfl, rfl⟩
          show (if k = id then some (freshE b) else D.ts k) = some e
          rw [if_neg (fun q => by rw [q, hn] at he; cases he)]
          exact he
theorem OnceI.at (h : OnceI lim i D L a) (ok : POk D) {k : Int} {e : En} (hk : D.ts k = some e) : ∃ (j : Nat) (x : Int), k = (j : Int) ∧ j ≤ 11 ∧ a[j]? = some x ∧ (x = 0 ↔ e.done = false) := by
  have hm := (ok.mem k).2 ⟨e, hk⟩
  have h1 := h.ids k hm
  have h2 := (ok.idr k hm).1
  obtain ⟨j, rfl⟩ : ∃ j : Nat, k = (j : Int) := ⟨k.toNat, by omega⟩
  have hj : j < a.length := by rw [h.al]; omega
  refine ⟨j, a[j], rfl, by omega, List.getElem?_eq_getElem hj, ?_⟩
  rcases h.an j _ (List.getElem?_eq_getElem hj) with ⟨q1, q2⟩ | ⟨q1, _, f, hf, hd, _⟩
  · exact ⟨fun _ => q2 e hk, fun _ => q1⟩
  · rw [hk] at hf
    cases hf
    exact ⟨fun q => by omega, fun q => by rw [hd] at q; cases q⟩
/-- What an Ask has done. -/
theorem ask_cases (D : Pl) (x t : Int) :
    ((D.ask x t).1.is = false ∧ ((D.ask x t).1.err ≠ 0 ∧ (D.ask x t).2 = D ∨ (D.ask x t).1.err = 0 ∧ (D.ask x t).2 = { D with tick := t } ∧ D.tick ≤ t)) ∨
    ∃ (j : Nat) (v : Wk) (k : Int) (e : En), x = (j : Int) ∧ D.ws[j]? = some v ∧ D.tick ≤ t ∧ t ≤ 1099511627776 ∧ D.busy v x t = false ∧ D.pickIn t D.ids = some (k, e) ∧ D.ask x t = (⟨k, e.body, (e.tries.length : Int), true, 0⟩, ({ D with tick := t } : Pl).give j v t k e) := by
  obtain ⟨O, hO⟩ : ∃ O, D.ask x t = O := ⟨_, rfl⟩
  rw [hO]
  unfold Pl.ask at hO
  split at hO
  · rename_i hw
    subst hO
    exact .inl ⟨rfl, .inl ⟨hw, rfl⟩⟩
  · rename_i hw
    obtain ⟨hn0, ht0, ht1, ht2⟩ := wrong_ok (D := D) (x := x) (t := t) (by simpa using hw)
    obtain ⟨j, v, rfl, hi, hv⟩ := yes_worker hn0
    rw [Int.toNat_natCast, hv] at hO
    simp only at hO
    split at hO
    · subst hO; exact .inl ⟨rfl, .inl ⟨by show ¬ (19 : Int) = 0; decide, rfl⟩⟩
    · split at hO
      · subst hO; exact .inl ⟨rfl, .inl ⟨by show ¬ (15 : Int) = 0; decide, rfl⟩⟩
      · rename_i hb
        have hb : D.busy v (j : Int) t = false := by cases q : D.busy v (j : Int) t; rfl; exact absurd q hb
        split at hO
        · subst hO; exact .inl ⟨rfl, .inr ⟨rfl, rfl, ht2⟩⟩
        · rename_i k e hp
          subst hO
          exact .inr ⟨j, v, k, e, rfl, hv, ht2, ht1, hb, hp, rfl⟩
theorem OnceI.askNo (h : OnceI lim i D L a) {x t : Int} (ht2 : t ≤ D.tick + 3) (hn : (D.ask x t).1.is = false) : OnceI lim (i + 1) (D.ask x t).2 L a ∧ (D.ask x t).2.tick = if (D.ask x t).1.err = 0 then t else D.tick := by
  rcases ask_cases D x t with ⟨_, ⟨h1, h2⟩ | ⟨h1, h2, h3⟩⟩ | ⟨j, v, k, e, _, _, _, _, _, _, ha⟩
  · rw [h2, if_neg h1]
    exact ⟨h.same, rfl⟩
  · rw [h2, if_pos h1]
    exact ⟨h.later h3 ht2, rfl⟩
  · rw [ha] at hn
    cases hn
theorem OnceI.askYes (h : OnceI lim i D L a) (ok : POk D) {x t : Int} (ht2 : t ≤ D.tick + 3) (hy : (D.ask x t).1.is = true) :
    (D.ask x t).1.err = 0 ∧ (D.ask x t).2.tick = t ∧ (∃ (id m : Nat), (D.ask x t).1.id = (id : Int) ∧ id ≤ 11 ∧ (D.ask x t).1.n = (m : Int) ∧ m ≤ i ∧ a[id]? = some 0 ∧
      (∀ y ∈ L, y.over = false → t < y.tick + lim → (y.task = (id : Int) ∨ y.worker = x) → ∃ j u, y.task = ((j : Nat) : Int) ∧ j ≤ 11 ∧ a[j]? = some u ∧ u ≠ 0) ∧ OnceI lim (i + 1) (D.ask x t).2 (L ++ [⟨(id : Int), m, x, t, false⟩]) a) := by
  have hlog := h.log.ask ok x t
  have htl := h.tl.ask x t
  unfold Pl.logAsk at hlog
  rw [if_pos hy] at hlog
  rcases ask_cases D x t with ⟨h1, _⟩ | ⟨j, v, k, e, rfl, hv, ht0, _, hb, hp, ha⟩
  · rw [h1] at hy
    cases hy
  · rw [ha] at hlog htl ⊢
    obtain ⟨hkm, hts, hd, hr⟩ := pickIn_some hp
    obtain ⟨id, u, rfl, hid, hau, hu0⟩ := h.at ok hts
    refine ⟨rfl, rfl, id, e.tries.length, rfl, hid, rfl, h.tl _ e hts, by rw [hau, hu0.2 hd], fun y hy2 ho hlt hor => ?_, ?_⟩
    · obtain ⟨f, hf, hg⟩ := h.log.get y hy2
      obtain ⟨jy, uy, hjy, hjl, hauy, huy⟩ := h.at ok hf
      refine ⟨jy, uy, hjy, hjl, hauy, fun q => ?_⟩
      have hfd := huy.1 q
      have hhot : D.hot y t = true := (hot_eq D y t).2 ⟨⟨f, hf, hfd⟩, ho, by rw [h.tmo]; exact hlt⟩
      rcases hor with hor | hor
      · obtain ⟨f2, hf2, _, hrun⟩ := h.log.run ht0 hy2 hhot
        rw [hor, hts] at hf2
        cases hf2
        rw [hr] at hrun
        cases hrun
      · have := (h.log.busy ht0 hv).2 ⟨y, hy2, hor, hhot⟩
        rw [hb] at this
        cases this
    · have hk2 : ∀ q f, (({ D with tick := t } : Pl).give j v t (id : Int) e).ts q = some f → ∃ f0, D.ts q = some f0 ∧ f.done = f0.done := fun q f hf => by
        change (if q = (id : Int) then some _ else D.ts q) = some f at hf
        split at hf
        · rename_i e1
          cases hf
          exact ⟨e, by rw [e1]; exact hts, rfl⟩
        · exact ⟨f, hf, rfl⟩
      refine h.next ?_ htl rfl ht2 (by show (D.ws.set j _).length = _; rw [List.length_set]) h.ids (fun q f hf => .inl (hk2 q f hf)) (fun q f hf => ?_) (by rw [List.length_append, List.length_singleton]; have := h.Ll; omega)
      · have : ((e.tries.length : Int)).toNat = e.tries.length := Int.toNat_natCast _
        rw [this] at hlog
        exact hlog
      · by_cases e1 : q = (id : Int)
        · rw [e1, hts] at hf
          cases hf
          exact ⟨{ e with tries := e.tries ++ [((j : Int), t)], lost := false }, by show (if q = (id : Int) then some _ else D.ts q) = some _; rw [if_pos e1], rfl, rfl⟩
        · exact ⟨f, by show (if q = (id : Int) then some _ else D.ts q) = some _; rw [if_neg e1]; exact hf, rfl, rfl⟩
theorem OnceI.die (h : OnceI lim i D L a) (ok : POk D) {x t : Int} (ht2 : t ≤ D.tick + 3) : OnceI lim (i + 1) (D.die x t).2 (D.logDie x t L) a ∧ (D.die x t).2.tick = if (D.die x t).1 = 0 then t else D.tick := by
  have hlog := h.log.died ok x t
  have htl := (h.tl.die x t).mono (Nat.le_succ i)
  unfold Pl.logDie at hlog ⊢
  obtain ⟨O, hO⟩ : ∃ O, D.die x t = O := ⟨_, rfl⟩
  rw [hO] at hlog htl ⊢
  unfold Pl.die at hO
  split at hO
  · rename_i hw
    subst hO
    rw [if_neg hw, if_neg hw]
    exact ⟨h.same, rfl⟩
  · rename_i hw
    obtain ⟨hn0, ht0, ht1, ht3⟩ := wrong_ok (D := D) (x := x) (t := t) (by simpa using hw)
    obtain ⟨j, v, rfl, hi, hv⟩ := yes_worker hn0
    rw [Int.toNat_natCast, hv] at hO
    simp only at hO
    split at hO
    · subst hO
      rw [if_neg (by show ¬ (20 : Int) = 0; decide), if_neg (by show ¬ (20 : Int) = 0; decide)]
      exact ⟨h.same, rfl⟩
    · subst hO
      rw [if_pos rfl] at hlog
      rw [if_pos rfl, if_pos rfl]
      refine ⟨h.next hlog htl ?_ ht2 ?_ ?_ (fun k f hf => ?_) (fun k f hf => ?_) (by rw [List.length_map]; have := h.Ll; omega), rfl⟩
      · show (D.lose j v).timeout = _
        rw [lose_eq]
      · show (D.ws.set j _).length = _
        rw [List.length_set]
      · show ∀ x ∈ (D.lose j v).ids, x ≤ 11
        rw [lose_eq]
        exact h.ids
      · change (D.lose j v).ts k = some f at hf
        rw [lose_eq] at hf
        change (D.ts k).map _ = some f at hf
        cases hts : D.ts k with
        | none => rw [hts] at hf; cases hf
        | some e => rw [hts] at hf; cases hf; exact .inl ⟨e, rfl, rfl⟩
      · refine ⟨{ f with lost := f.lost || (v.has && decide (v.task = k) && mineLast f j) }, ?_, rfl, rfl⟩
        show (D.lose j v).ts k = _
        rw [lose_eq]
        show (D.ts k).map _ = _
        rw [hf]
        rfl
theorem OnceI.revive (h : OnceI lim i D L a) (x : Int) : OnceI lim (i + 1) (D.revive x).2 L a ∧ (D.revive x).2.tick = D.tick := by
  have hlog := h.log.revive x
  have htl := (h.tl.revive x).mono (Nat.le_succ i)
  unfold Pl.revive at hlog htl ⊢
  split
  · exact ⟨h.same, rfl⟩
  · rename_i h1
    rw [if_neg h1] at hlog htl
    split
    · exact ⟨h.same, rfl⟩
    · rename_i v hv
      rw [hv] at hlog htl
      simp only at hlog htl
      split
      · rename_i h2
        rw [if_pos h2] at hlog htl
        exact ⟨h.next hlog htl rfl (by show D.tick ≤ D.tick + 3; omega) (by show (D.ws.set _ _).length = _; rw [List.length_set]) h.ids (fun k e he => .inl ⟨e, he, rfl⟩) (fun k e he => ⟨e, he, rfl, rfl⟩) (by have := h.Ll; omega), rfl⟩
      · exact ⟨h.same, rfl⟩
theorem OnceI.answer (h : OnceI lim i D L a) (ok : POk D) {y : Tr} (hy : y ∈ L) {t : Int} (ht1 : D.tick ≤ t) (ht2 : t ≤ D.tick + 3) (hi : i ≤ 40) :
    (D.answer y.task y.worker (y.num : Int) [UInt8.ofNat (i + 1)] t).2.1 = 0 ∧ (D.answer y.task y.worker (y.num : Int) [UInt8.ofNat (i + 1)] t).2.2.tick = t ∧
      ∃ (j : Nat) (u : Int), y.task = (j : Int) ∧ j ≤ 11 ∧ a[j]? = some u ∧ (D.answer y.task y.worker (y.num : Int) [UInt8.ofNat (i + 1)] t).1 = decide (u = 0) ∧
        OnceI lim (i + 1) (D.answer y.task y.worker (y.num : Int) [UInt8.ofNat (i + 1)] t).2.2 L (if u = 0 then a.set j ((i : Int) + 1) else a) := by
  obtain ⟨e, he, hg⟩ := h.log.get y hy
  obtain ⟨j, u, hj, hjl, hau, hu0⟩ := h.at ok he
  have htri := ok.tri _ e he _ (List.mem_of_getElem? hg)
  have hlog := h.log.answer y.task y.worker (y.num : Int) [UInt8.ofNat (i + 1)] t
  have htl := (h.tl.answer y.task y.worker (y.num : Int) [UInt8.ofNat (i + 1)] t).mono (Nat.le_succ i)
  have hwr : D.wrong y.worker t = 0 := by
    unfold Pl.wrong Pl.no
    have h1 := htri.1
    have h2 := h.tck
    have h3 := ok.tck
    have h1 : 0 ≤ y.worker ∧ y.worker < (D.ws.length : Int) := h1
    rw [if_neg (by simp; omega), if_neg (by omega)]
  have hmine : e.mine y.worker (y.num : Int) = true := by
    unfold En.mine
    rw [Int.toNat_natCast, hg]
    simp
  unfold Pl.answer at hlog htl ⊢
  rw [hwr, he] at hlog htl ⊢
  simp only [ne_eq, not_true_eq_false, if_false, hmine, List.length_singleton] at hlog htl ⊢
  rw [if_neg (by decide), if_neg (by decide)] at hlog htl ⊢
  by_cases hd : e.done = true
  · rw [if_pos hd] at hlog htl ⊢
    have hu : ¬ u = 0 := fun q => by have := hu0.1 q; rw [hd] at this; cases this
    refine ⟨rfl, rfl, j, u, hj, hjl, hau, by simp [hu], ?_⟩
    rw [if_neg hu]
    exact h.later ht1 ht2
  · rw [if_neg hd] at hlog htl ⊢
    have hu : u = 0 := hu0.2 (by simpa using hd)
    refine ⟨rfl, rfl, j, u, hj, hjl, hau, by simp [hu], ?_⟩
    rw [if_pos hu]
    refine ⟨hlog, htl, h.tmo, by show t ≤ _; have := h.tck; omega, h.ws, h.ids, by rw [List.length_set]; exact h.al, fun k x hx => ?_, by have := h.Ll; omega⟩
    by_cases hk : j = k
    · subst hk
      rw [List.getElem?_set_self (by rw [h.al]; omega)] at hx
      cases hx
      refine .inr ⟨by omega, by omega, { e with done := true, ans := ⟨y.task, y.worker, (y.num : Int), [UInt8.ofNat (i + 1)]⟩ }, ?_, rfl, ?_⟩
      · show (if (j : Int) = y.task then _ else D.ts (j : Int)) = _
        rw [if_pos hj.symm]
      · show [UInt8.ofNat (i + 1)] = _
        congr 2
    · rw [List.getElem?_set_ne hk] at hx
      have hne : ¬ (k : Int) = y.task := by rw [hj]; omega
      have e1 : (if (k : Int) = y.task then some { e with done := true, ans := ⟨y.task, y.worker, (y.num : Int), [UInt8.ofNat (i + 1)]⟩ } else D.ts (k : Int)) = D.ts (k : Int) := if_neg hne
      rcases h.an k x hx with ⟨q1, q2⟩ | ⟨q1, q2, q3⟩
      · exact .inl ⟨q1, fun f hf => q2 f (e1 ▸ hf)⟩
      · exact .inr ⟨q1, by omega, by
          obtain ⟨f, hf, r⟩ := q3
          exact ⟨f, e1.trans hf, r⟩⟩
end
end Go.Proofs.Ytfdacckkdjpjhaa
