/- A list of byte slices that came in. -/
import Derived.Test.YtmofakcpldbbmaaMdY
namespace Go.Proofs.Ytmofakcpldbbmaa
open Go.RowKit

theorem rows_ls {w : World} {x : Addr} {len cap base : Nat} {A : Nat → Option Addr} {L C : Nat → Nat} {Z : Nat → List Int} (hl : len ≤ cap) (hm : cap ≤ maxLen)
    (h : ∀ r, r < cap → w.cell? (x.add r) = some (.slice (A r) (L r) (C r)) ∧ L r ≤ C r ∧ C r ≤ maxLen ∧ (Z r).length = C r ∧ (∀ n ∈ Z r, (Lit.int .u8 n).wf = true) ∧ (A r = none → C r = 0) ∧
      ∀ a', A r = some a' → base ≤ a'.block ∧ ∀ c, c < C r → w.cell? (a'.add c) = some (.int .u8 ((Z r).getD c 0))) : ∃ M : List (List UInt8), M.length = len ∧ LsR w (.slice (some x) len cap) M := by
  have hrow : ∀ r, r < cap → ∃ bs : List UInt8, bs.length = L r ∧ Rv w (.slice (A r) (L r) (C r)) (L r) (bs.map vB) := fun r hr => by
    obtain ⟨h1, h2, h3, h4, h5, h6, h7⟩ := h r hr
    refine rowB (zs := Z r) ?_
    cases hA : A r with
    | none =>
      have hc := h6 hA
      exact .inl ⟨rfl, by omega, hc, List.eq_nil_of_length_eq_zero (by omega)⟩
    | some a' => exact .inr ⟨a', rfl, h2, h3, h4, fun i hi => (h7 a' hA).2 i (by omega), h5⟩
  obtain ⟨f, hf⟩ : ∃ f : Nat → List UInt8, ∀ r, r < cap → (f r).length = L r ∧ Rv w (.slice (A r) (L r) (C r)) (L r) ((f r).map vB) :=
    ⟨fun r => if hr : r < cap then Classical.choose (hrow r hr) else [], fun r hr => by
      simp only [dif_pos hr]
      exact Classical.choose_spec (hrow r hr)⟩
  refine ⟨(List.range len).map f, by simp, (List.range len).map fun r => .slice (A r) (L r) (C r), ?_, by simp, fun i hi u hu => ?_⟩
  · rw [List.length_map, List.length_range]
    refine ⟨some x, cap, rfl, hl, hm, (fun h => by cases h), ?_⟩
    by_cases h0 : len = 0
    · exact .inl (by simp [h0])
    · have hx : x.spot = none := by
        have h1 := (h 0 (by omega)).1
        unfold World.cell? Addr.add at h1
        simp only [↓reduceIte] at h1
        cases hs : x.spot with
        | none => rfl
        | some q =>
          rw [hs] at h1
          split at h1
          · simp at h1
          · cases h1
      obtain ⟨b, off, sp⟩ := x
      simp only at hx
      subst hx
      refine .inr ⟨b, off, rfl, fun i u hu => ?_⟩
      rw [List.getElem?_map] at hu
      by_cases hi : i < len
      · rw [List.getElem?_range hi] at hu
        simp only [Option.map_some, Option.some.injEq] at hu
        have h1 := (h i (by omega)).1
        rw [show (({ block := b, off := off, spot := none } : Addr).add i) = ⟨b, off + i, none⟩ from by unfold Addr.add; split <;> simp_all] at h1
        rw [h1, hu]
      · rw [List.getElem?_eq_none (by simpa using hi)] at hu
        cases hu
  · have hi' : i < len := by simpa using hi
    rw [List.getElem?_map, List.getElem?_range hi'] at hu
    simp only [Option.map_some, Option.some.injEq] at hu
    subst hu
    obtain ⟨h1, h2⟩ := hf i (by omega)
    simp only [List.getElem_map, List.getElem_range]
    rw [h1]
    exact h2
end Go.Proofs.Ytmofakcpldbbmaa
