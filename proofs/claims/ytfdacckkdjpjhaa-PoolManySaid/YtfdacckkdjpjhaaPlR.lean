/- The law PoolMany. -/
import Derived.Test.YtfdacckkdjpjhaaPlQ
namespace Go.Proofs.Ytfdacckkdjpjhaa
open Go.RowKit

/-- The pool while the tasks are added: i of them tried. -/
structure Mny (n k i : Nat) (D : Pl) : Prop where
  ws : D.ws = [⟨false, false, 0⟩]
  tmo : D.timeout = 1
  tck : D.tick = 0
  len : D.ids.length = min i 1024
  ids : ∀ x ∈ D.ids, ∃ j, j < i ∧ x = (((j + k) % n : Nat) : Int)
  ts : ∀ x e, D.ts x = some e → e = freshE []
theorem mod_ne {n k i j : Nat} (hj : j < i) (hi : i < n) : (i + k) % n ≠ (j + k) % n := fun h => by
  have h1 := Nat.sub_mod_eq_zero_of_mod_eq h
  rw [show i + k - (j + k) = i - j by omega, Nat.mod_eq_of_lt (by omega)] at h1
  omega
theorem Mny.new (n k : Nat) : Mny n k 0 (newPl 1 1) := ⟨rfl, rfl, rfl, rfl, (fun _ h => by cases h), (fun _ _ h => by cases h)⟩
theorem Mny.add {n k i : Nat} {D : Pl} (h : Mny n k i D) (ok : POk D) (hi : i < n) : (D.add (((i + k) % n : Nat) : Int) []).1 = (if i < 1024 then 0 else 4) ∧ Mny n k (i + 1) (D.add (((i + k) % n : Nat) : Int) []).2 := by
  have hl := h.len
  have hn : D.ts (((i + k) % n : Nat) : Int) = none := by
    cases hts : D.ts (((i + k) % n : Nat) : Int) with
    | none => rfl
    | some e =>
      obtain ⟨j, hj, e2⟩ := h.ids _ ((ok.mem _).2 ⟨e, hts⟩)
      exact absurd (Int.ofNat.inj e2) (mod_ne hj hi)
  unfold Pl.add
  rw [if_neg (by omega)]
  by_cases h1 : i < 1024
  · rw [if_neg (by simp; omega), hn, if_pos h1]
    refine ⟨rfl, h.ws, h.tmo, h.tck, ?_, fun x hx => ?_, fun x e he => ?_⟩
    · show (insI _ D.ids).length = _
      rw [insI_len]
      omega
    · rcases (insI_mem _ x D.ids).1 hx with rfl | hx
      · exact ⟨i, by omega, rfl⟩
      · obtain ⟨j, hj, e⟩ := h.ids x hx
        exact ⟨j, by omega, e⟩
    · change (if x = _ then some (freshE []) else D.ts x) = some e at he
      split at he
      · cases he; rfl
      · exact h.ts x e he
  · rw [if_pos (.inr (by omega)), if_neg h1]
    exact ⟨rfl, h.ws, h.tmo, h.tck, (by show D.ids.length = _; omega), fun x hx => by
      obtain ⟨j, hj, e⟩ := h.ids x hx
      exact ⟨j, by omega, e⟩, h.ts⟩
/-- The pool while the tasks are asked for: i of them answered. -/
structure Mny2 (ids : List Int) (i : Nat) (D : Pl) : Prop where
  ie : D.ids = ids
  tmo : D.timeout = 1
  ws : ∃ v : Wk, D.ws = [v] ∧ v.dead = false ∧ (v.has = true → ∃ e, D.ts v.task = some e ∧ e.done = true)
  tck : D.tick ≤ (i : Int)
  done : ∀ j x, j < i → ids[j]? = some x → ∃ e, D.ts x = some e ∧ e.done = true
  frsh : ∀ j x, i ≤ j → ids[j]? = some x → D.ts x = some (freshE [])
theorem Mny.two {n k i : Nat} {D : Pl} (h : Mny n k i D) (ok : POk D) : Mny2 D.ids 0 D :=
  ⟨rfl, h.tmo, ⟨_, h.ws, rfl, fun q => by cases q⟩, by rw [h.tck]; exact Int.le_refl _, (fun _ _ hj => by omega), fun j x _ hx => by
    obtain ⟨e, he⟩ := (ok.mem x).1 (List.mem_of_getElem? hx)
    rw [he, h.ts x e he]⟩
theorem Mny.opn {n k i : Nat} {D : Pl} (h : Mny n k i D) (ok : POk D) : opn D D.ids = D.ids := by
  unfold Go.Proofs.Ytfdacckkdjpjhaa.opn
  rw [List.filter_eq_self]
  intro x hx
  obtain ⟨e, he⟩ := (ok.mem x).1 hx
  rw [he, h.ts x e he]
  rfl
theorem Mny2.step {ids : List Int} {i : Nat} {D : Pl} {x : Int} (h : Mny2 ids i D) (ok : POk D) (hx : ids[i]? = some x) (hi : i ≤ 100) :
    askOf (D.ask 0 (i : Int)).1 = (x, 0, 0, true, 0) ∧ ((D.ask 0 (i : Int)).2.answer x 0 0 [] (i : Int)).1 = true ∧ ((D.ask 0 (i : Int)).2.answer x 0 0 [] (i : Int)).2.1 = 0 ∧ Mny2 ids (i + 1) ((D.ask 0 (i : Int)).2.answer x 0 0 [] (i : Int)).2.2 := by
  obtain ⟨v, hws, hd, hh⟩ := h.ws
  have ht := h.tck
  have hwr : ∀ E : Pl, E.ws.length = 1 → E.tick ≤ (i : Int) → E.wrong 0 (i : Int) = 0 := fun E h1 h2 => by
    unfold Pl.wrong Pl.no
    rw [h1, if_neg (by simp; omega), if_neg (by omega)]
  have hb : D.busy v 0 (i : Int) = false := by
    cases q : D.busy v 0 (i : Int)
    · rfl
    · obtain ⟨q1, e, y, he, _, _, hr⟩ := (busy_eq _ _ _ _).1 q
      obtain ⟨e2, he2, hd2⟩ := hh q1
      rw [he] at he2
      cases he2
      have := ((run_eq _ _ _).1 hr).1
      rw [hd2] at this
      cases this
  have hfx := h.frsh i x (Nat.le_refl _) hx
  have hil := (List.getElem?_eq_some_iff.1 hx).1
  have hpk : D.pickIn (i : Int) D.ids = some (x, freshE []) := by
    have htl : (ids.take i).length = i := by rw [List.length_take]; omega
    refine pickIn_at D (i : Int) (l := ids.take i) (by rw [h.ie, htl]; exact hx) (by rw [h.ie, htl]) ?_ hfx rfl
    unfold Pl.pickIn
    rw [List.findSome?_eq_none_iff]
    intro y hy
    obtain ⟨j, hj, hyj⟩ := List.mem_iff_getElem.1 hy
    rw [List.getElem_take] at hyj
    obtain ⟨e, he, hd2⟩ := h.done j y (by omega) (by rw [← hyj]; exact List.getElem?_eq_getElem _)
    rw [he]
    simp [hd2]
  have hask : D.ask 0 (i : Int) = (⟨x, [], 0, true, 0⟩, ({ D with tick := (i : Int) } : Pl).give 0 v (i : Int) x (freshE [])) := by
    unfold Pl.ask
    rw [if_neg (by rw [hwr D (by rw [hws]; rfl) ht]; simp)]
    have h0 : D.ws[(0 : Int).toNat]? = some v := by rw [hws]; rfl
    rw [h0]
    simp only [hd]
    rw [if_neg (by simp), if_neg (by rw [hb]; simp), hpk]
    rfl
  have hmx : ∀ j y, ids[j]? = some y → y = x → j = i := fun j y hy e => by
    have hord := ok.ord
    rw [h.ie] at hord
    have hjl := (List.getElem?_eq_some_iff.1 hy).1
    have e1 := (List.getElem?_eq_some_iff.1 hy).2
    have e2 := (List.getElem?_eq_some_iff.1 hx).2
    rcases Nat.lt_trichotomy j i with h1 | h1 | h1
    · have := List.pairwise_iff_getElem.1 hord j i hjl hil h1
      omega
    · exact h1
    · have := List.pairwise_iff_getElem.1 hord i j hil hjl h1
      omega
  rw [hask]
  obtain ⟨E, hE⟩ : ∃ E, E = ({ D with tick := (i : Int) } : Pl).give 0 v (i : Int) x (freshE []) := ⟨_, rfl⟩
  rw [← hE]
  have hEt : ∀ y, E.ts y = if y = x then some { freshE [] with tries := [(((0 : Nat) : Int), (i : Int))], lost := false } else D.ts y := fun y => by rw [hE]; rfl
  have hEw : E.ws = [⟨v.dead, true, x⟩] := by
    rw [hE]
    show D.ws.set 0 _ = _
    rw [hws]
    rfl
  have hEi : E.ids = ids := by rw [hE]; exact h.ie
  have hEm : E.timeout = 1 := by rw [hE]; exact h.tmo
  have hEk : E.tick = (i : Int) := by rw [hE]; rfl
  have hans : E.answer x 0 0 [] (i : Int) = (true, 0, { E with tick := (i : Int), ts := fun j => if j = x then some { freshE [] with tries := [(((0 : Nat) : Int), (i : Int))], lost := false, done := true, ans := ⟨x, 0, 0, []⟩ } else E.ts j }) := by
    unfold Pl.answer
    rw [if_neg (by rw [hwr E (by rw [hEw]; rfl) (by rw [hEk]; exact Int.le_refl _)]; simp), hEt x, if_pos rfl]
    rfl
  rw [hans]
  refine ⟨rfl, rfl, rfl, hEi, hEm, ⟨_, hEw, hd, fun _ => ⟨_, if_pos rfl, rfl⟩⟩, by show (i : Int) ≤ ((i + 1 : Nat) : Int); omega, fun j y hj hy => ?_, fun j y hj hy => ?_⟩
  · show ∃ e, (if y = x then _ else E.ts y) = some e ∧ _
    by_cases q : y = x
    · rw [if_pos q]
      exact ⟨_, rfl, rfl⟩
    · rw [if_neg q, hEt, if_neg q]
      refine h.done j y (Nat.lt_of_le_of_ne (by omega) (fun e => ?_)) hy
      rw [e, hx] at hy
      cases hy
      exact q rfl
  · show (if y = x then _ else E.ts y) = _
    have q : y ≠ x := fun e => by have := hmx j y hy e; omega
    rw [if_neg q, hEt, if_neg q]
    exact h.frsh j y (by omega) hy
end Go.Proofs.Ytfdacckkdjpjhaa
