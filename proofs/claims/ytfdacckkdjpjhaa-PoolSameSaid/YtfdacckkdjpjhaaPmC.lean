/- Package pool's model: plain facts of its jobs. -/
import Derived.Test.YtfdacckkdjpjhaaPmB
namespace Go.Proofs.Ytfdacckkdjpjhaa
open Go.RowKit

theorem insI_at (x : Int) : ∀ (l : List Int) (k : Nat), k ≤ l.length → (∀ j y, j < k → l[j]? = some y → y < x) → (∀ y, l[k]? = some y → x < y) → insI x l = l.take k ++ x :: l.drop k
  | [], k, hk, _, _ => by
    obtain rfl : k = 0 := by simpa using hk
    rfl
  | y :: l, 0, _, _, h2 => by
    have := h2 y rfl
    simp [insI, this]
  | y :: l, k + 1, hk, h1, h2 => by
    have h0 := h1 0 y (by omega) rfl
    have ih := insI_at x l k (by simpa using hk) (fun j z hj hz => h1 (j + 1) z (by omega) (by simpa using hz)) (fun z hz => h2 z (by simpa using hz))
    rw [insI, if_neg (by omega), ih]
    rfl
theorem mdOf_wrong (D : Pl) (L : List Tr) (x t : Int) : (mdOf D L).wrong x t = D.wrong x t := by
  unfold Md.wrong Pl.wrong Md.no Pl.no mdOf
  simp only [List.length_map]
theorem jbOf_id (D : Pl) (k : Int) : (jbOf D k).id = k := by unfold jbOf; cases D.ts k <;> rfl
theorem mdOf_get (D : Pl) (L : List Tr) (i : Nat) : (mdOf D L).jobs[i]? = (D.ids[i]?).map (jbOf D) := by unfold mdOf; rw [List.getElem?_map]
theorem fnd_none {D : Pl} {L : List Tr} {id r : Int} (ok : POk D) (hn : D.ts id = none) (h : Fnd (mdOf D L).jobs id r) : r = -1 := by
  rcases h with ⟨h, _⟩ | ⟨k, j, _, hk, hj⟩
  · exact h
  · rw [mdOf_get] at hk
    cases hx : D.ids[k]? with
    | none => rw [hx] at hk; cases hk
    | some x =>
      rw [hx] at hk
      cases hk
      rw [jbOf_id] at hj
      obtain ⟨e, he⟩ := (ok.mem x).1 (List.mem_of_getElem? hx)
      rw [hj, hn] at he
      cases he
theorem fnd_some {D : Pl} {L : List Tr} {id r : Int} {e : En} (ok : POk D) (hn : D.ts id = some e) (h : Fnd (mdOf D L).jobs id r) : ∃ k : Nat, r = (k : Int) ∧ D.ids[k]? = some id := by
  rcases h with ⟨_, h⟩ | ⟨k, j, hr, hk, hj⟩
  · obtain ⟨i, hi, hx⟩ := List.mem_iff_getElem.1 ((ok.mem id).2 ⟨e, hn⟩)
    have hg : (mdOf D L).jobs[i]? = some (jbOf D id) := by rw [mdOf_get, List.getElem?_eq_getElem hi, hx]; rfl
    exact absurd (jbOf_id D id) (h _ (List.mem_of_getElem? hg))
  · rw [mdOf_get] at hk
    cases hx : D.ids[k]? with
    | none => rw [hx] at hk; cases hk
    | some x =>
      rw [hx] at hk
      cases hk
      rw [jbOf_id] at hj
      exact ⟨k, hr, by rw [hx, hj]⟩
theorem jbOf_ne {D D' : Pl} {k : Int} (h : D'.ts k = D.ts k) : jbOf D' k = jbOf D k := by unfold jbOf; rw [h]
/-- The model of a pool with one more task. -/
theorem mdOf_add {D : Pl} (L : List Tr) {id : Int} {b : List UInt8} {k : Nat} (ok : POk D) (hn : D.ts id = none) (hk : k ≤ D.ids.length) (h1 : ∀ j y, j < k → D.ids[j]? = some y → y < id) (h2 : ∀ y, D.ids[k]? = some y → id < y) :
    mdOf { D with ids := insI id D.ids, ts := fun j => if j = id then some (freshE b) else D.ts j } L = { mdOf D L with jobs := (mdOf D L).jobs.take k ++ ⟨id, b, 0, false, 0, 0, []⟩ :: (mdOf D L).jobs.drop k } := by
  have hni : ∀ x ∈ D.ids, x ≠ id := fun x hx e => by
    obtain ⟨f, hf⟩ := (ok.mem x).1 hx
    rw [e, hn] at hf
    cases hf
  obtain ⟨E, hE⟩ : ∃ E : Pl, E = { D with ids := insI id D.ids, ts := fun j => if j = id then some (freshE b) else D.ts j } := ⟨_, rfl⟩
  have hts : ∀ x, E.ts x = if x = id then some (freshE b) else D.ts x := fun x => by rw [hE]
  have e1 : D.ids.map (jbOf E) = D.ids.map (jbOf D) := List.map_congr_left fun x hx => jbOf_ne ((hts x).trans (if_neg (hni x hx)))
  have e2 : jbOf E id = ⟨id, b, 0, false, 0, 0, []⟩ := by
    have h : E.ts id = some (freshE b) := (hts id).trans (if_pos rfl)
    unfold jbOf
    rw [h]
    rfl
  have e3 : E.ids.map (jbOf E) = (D.ids.map (jbOf D)).take k ++ ⟨id, b, 0, false, 0, 0, []⟩ :: (D.ids.map (jbOf D)).drop k := by
    have : E.ids = insI id D.ids := by rw [hE]
    rw [this, insI_at id D.ids k hk h1 h2, List.map_append, List.map_cons, e2, List.map_take, List.map_drop, e1]
  rw [← hE]
  unfold mdOf
  rw [e3, hE]
end Go.Proofs.Ytfdacckkdjpjhaa
