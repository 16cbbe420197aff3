/- Package disk: Copy. -/
import Derived.Test.YtpehnggglolnoaaDskJ
namespace Go.Proofs.Ytpehnggglolnoaa
open Go.RowKit

/-- A map of files without its disk. -/
structure RowsAt (w : World) (mb : Nat) (F : Int → Option Value) (ks : List Int) (X : Nat → Prop) (fs : Int → List UInt8 × Nat) : Prop where
  map : MapF w mb F ks
  emp : ∀ k, (fs k).1 = [] → F k = none ∧ (fs k).2 = 0
  ful : ∀ k, (fs k).1 ≠ [] → 0 ≤ k ∧ k < 64 ∧ ∃ a c, F k = some (.agg #[.slice a (fs k).1.length c, .int .i64 ((fs k).2 : Int)])
  row : ∀ k v d, F k = some (.agg #[v, d]) → w.ownsRow 0 5 1 v (fs k).1.length ((fs k).1.map vB) ∧ ∀ b, v.ownBlock = some b → X b ∧ b ≠ mb
  sep : ∀ j k u v d e b, j ≠ k → F j = some (.agg #[u, d]) → F k = some (.agg #[v, e]) → u.ownBlock = some b → v.ownBlock ≠ some b
  dur : ∀ k, (fs k).2 ≤ (fs k).1.length
  xl : ∀ b, X b → b < w.heap.size
section
variable {w w' : World} {mb : Nat} {F F' : Int → Option Value} {ks ks' : List Int} {X : Nat → Prop} {fs : Int → List UInt8 × Nat}
theorem RowsAt.kept (h : RowsAt w mb F ks X fs) (hs : w.heap.size ≤ w'.heap.size) (hm : w'.heap[mb]? = w.heap[mb]?) (hb : ∀ b, X b → w'.heap[b]? = w.heap[b]?) : RowsAt w' mb F ks X fs :=
  ⟨h.map.kept hm, h.emp, h.ful, fun k v d hF => ⟨own_same (h.row k v d hF).1 (fun b hv => hb b ((h.row k v d hF).2 b hv).1), (h.row k v d hF).2⟩, h.sep, h.dur, fun b hX => Nat.lt_of_lt_of_le (h.xl b hX) hs⟩
theorem RowsAt.later (h : RowsAt w mb F ks X fs) (B : Below w.heap.size w w') : RowsAt w' mb F ks X fs := h.kept B.size (B.block mb h.map.lt) (fun b hX => B.block b (h.xl b hX))
/-- A file comes in. -/
theorem RowsAt.put (h : RowsAt w mb F ks X fs) {k : Int} (hk : 0 ≤ k ∧ k < 64) {bs : List UInt8} (hne : bs ≠ []) {a : Option Addr} {c d : Nat} (hd : d ≤ bs.length)
    (hv : w.ownsRow 0 5 1 (.slice a bs.length c) bs.length (bs.map vB)) (hvb : ∀ x, (Value.slice a bs.length c).ownBlock = some x → ¬ X x ∧ x ≠ mb)
    (hm : MapF w' mb F' ks') (hF : ∀ x, F' x = if x = k then some (.agg #[.slice a bs.length c, .int .i64 (d : Int)]) else F x) (hg : w.grownBy w' (some mb)) :
    RowsAt w' mb F' ks' (fun x => X x ∨ (Value.slice a bs.length c).ownBlock = some x) (fun j => if j = k then (bs, d) else fs j) := by
  refine ⟨hm, fun j hj => ?_, fun j hj => ?_, fun j v e hj => ?_, fun i j u v e f x hij hi hj hu hv3 => ?_, fun j => ?_, fun x hx => ?_⟩
  · by_cases hjk : j = k
    · subst hjk
      simp only [if_true] at hj
      exact absurd hj hne
    · simp only [if_neg hjk] at hj ⊢
      rw [hF, if_neg hjk]
      exact h.emp j hj
  · by_cases hjk : j = k
    · subst hjk
      simp only [if_true]
      exact ⟨hk.1, hk.2, a, c, by rw [hF, if_pos rfl]⟩
    · simp only [if_neg hjk] at hj ⊢
      rw [hF, if_neg hjk]
      exact h.ful j hj
  · rw [hF] at hj
    by_cases hjk : j = k
    · subst hjk
      rw [if_pos rfl] at hj
      cases hj
      simp only [if_true]
      exact ⟨own_same hv (fun x hx => hg.block x (hv.lt x hx).2 (fun e => (hvb x hx).2 (Option.some.inj e))), fun x hx => ⟨.inr hx, (hvb x hx).2⟩⟩
    · rw [if_neg hjk] at hj
      simp only [if_neg hjk]
      obtain ⟨h1, h2⟩ := h.row j v e hj
      exact ⟨own_same h1 (fun x hx => hg.block x (h1.lt x hx).2 (fun e => (h2 x hx).2 (Option.some.inj e))), fun x hx => ⟨.inl (h2 x hx).1, (h2 x hx).2⟩⟩
  · rw [hF] at hi hj
    by_cases hik : i = k
    · subst hik
      rw [if_pos rfl] at hi
      rw [if_neg (fun e => hij e.symm)] at hj
      cases hi
      exact (hvb x hu).1 ((h.row j v f hj).2 x hv3).1
    · rw [if_neg hik] at hi
      by_cases hjk : j = k
      · subst hjk
        rw [if_pos rfl] at hj
        cases hj
        exact (hvb x hv3).1 ((h.row i u e hi).2 x hu).1
      · rw [if_neg hjk] at hj
        exact h.sep i j u v e f x hij hi hj hu hv3
  · by_cases hjk : j = k
    · simp only [if_pos hjk]; exact hd
    · simp only [if_neg hjk]; exact h.dur j
  · rcases hx with hx | hx
    · exact Nat.lt_of_lt_of_le (h.xl x hx) hg.size
    · exact Nat.lt_of_lt_of_le (hv.lt x hx).2 hg.size
end
def Dk.only (D : Dk) (l : List Int) : Int → List UInt8 × Nat := fun k => if k ∈ l then D.fs k else ([], 0)
theorem only_snoc (D : Dk) (l : List Int) (k : Int) : D.only (l ++ [k]) = fun j => if j = k then D.fs k else D.only l j := by
  funext j
  by_cases hj : j = k
  · subst hj; simp [Dk.only]
  · simp [Dk.only, hj]
theorem only_all (D : Dk) (h0 : ∀ k, (D.fs k).1 = [] → (D.fs k).2 = 0) (h1 : ∀ k, (D.fs k).1 ≠ [] → 0 ≤ k ∧ k < 64) : D.only D.files = D.fs := by
  funext k
  unfold Dk.only
  by_cases hk : k ∈ D.files
  · rw [if_pos hk]
  · rw [if_neg hk]
    have he : (D.fs k).1 = [] := Decidable.byContradiction fun he => hk ((files_mem D k).2 ⟨(h1 k he).1, (h1 k he).2, he⟩)
    rw [← Prod.eta (D.fs k), he, h0 k he]
end Go.Proofs.Ytpehnggglolnoaa
