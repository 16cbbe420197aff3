/- The round trips of lists. -/
import Derived.Test.YtpehnggglolnoaaReadM
import Derived.Test.YtpehnggglolnoaaWire
namespace Go.Proofs.Ytpehnggglolnoaa
open Go.RowKit

theorem rdL_uvar (n : Nat) (rest : List UInt8) (h : n < 18446744073709551616) (hn : n ≤ rest.length) : rdL (.ok (uvar n ++ rest)) = (n, .ok rest) := by
  rw [rdL, rdU_uvar n rest h]
  show (if rest.length < n then _ else _) = _
  rw [if_neg (by omega)]
theorem rdRaw_rawW (us rest : List UInt8) (h : us.length < 18446744073709551616) : rdRaw (.ok (rawW us ++ rest)) = (us, .ok rest) := by
  rw [rdRaw, rawW, List.append_assoc, rdL_uvar _ _ h (by simp)]
  simp
theorem rdNs_zvars (us : List Int) (rest : List UInt8) (h : ∀ u ∈ us, -9223372036854775808 ≤ u ∧ u ≤ 9223372036854775807) : rdNs us.length (.ok (zvars us ++ rest)) = (us, .ok rest) := by
  induction us with
  | nil => rfl
  | cons u us ih =>
    have e : zvars (u :: us) ++ rest = zvar u ++ (zvars us ++ rest) := by simp [zvars, List.append_assoc]
    rw [List.length_cons, rdNs, e, rdI_zvar u _ (h u (by simp)), ih fun x hx => h x (by simp [hx])]
theorem zvars_ge (us : List Int) : us.length ≤ (zvars us).length := by
  induction us with
  | nil => simp
  | cons u us ih =>
    have := uvar_pos (zz u)
    simp only [zvars, List.flatMap_cons, List.length_append, List.length_cons, zvar] at ih ⊢
    omega
theorem rdInts_intsW (us : List Int) (rest : List UInt8) (hl : us.length < 18446744073709551616) (h : ∀ u ∈ us, -9223372036854775808 ≤ u ∧ u ≤ 9223372036854775807) : rdInts (.ok (intsW us ++ rest)) = (us, .ok rest) := by
  have hz := zvars_ge us
  rw [rdInts, intsW, List.append_assoc, rdL_uvar _ _ hl (by simp; omega)]
  simp only [rdNs_zvars us rest h]

/-- What a call leaves of an owned row below its bound. -/
theorem own_belowb {w w' : World} {b base : Nat} {e : TypeId} {size : Nat} {v : Value} {n : Nat} {xs : List Value} (h : w.ownsRow base e size v n xs) (hs : Below b w w') (hb : ∀ g, v.ownBlock = some g → g < b) : w'.ownsRow base e size v n xs := by
  obtain ⟨hl, h | ⟨g, cap, cur, rfl, hb1, hg, hn, hc, hs', ht⟩⟩ := h
  · exact ⟨hl, .inl h⟩
  · exact ⟨hl, .inr ⟨g, cap, cur, rfl, hb1, (hs.block g (hb g rfl)).trans hg, hn, hc, hs', ht⟩⟩

/-- A store into an owned row of one-cell elements. -/
theorem own_store {w : World} {base : Nat} {e : TypeId} {v : Value} {n : Nat} {xs : List Value} (h : w.ownsRow base e 1 v n xs) (i : Nat) (hi : i < n) (u : Value) :
    ∃ g cap, v = .slice (some ⟨g, 0, none⟩) n cap ∧ n ≤ cap ∧ (∃ x, w.cell? ⟨g, i, none⟩ = some x) ∧ w.frozen? ⟨g, i, none⟩ = false ∧ (w.setCell ⟨g, i, none⟩ u).ownsRow base e 1 v n (xs.set i u) ∧ w.grownBy (w.setCell ⟨g, i, none⟩ u) (some g) := by
  have h0 := h
  obtain ⟨hl, h | ⟨g, cap, cur, rfl, hb1, hg, hn, hc, hs', ht⟩⟩ := h
  · omega
  · have hx : i < xs.length := by omega
    have hcell : w.cell? ⟨g, i, none⟩ = xs[i]? := h0.cellAt i (by omega)
    refine ⟨g, cap, rfl, hn, ⟨xs[i], by rw [hcell]; exact List.getElem?_eq_getElem hx⟩, h0.frozenAt i, ⟨by rw [List.length_set]; exact hl, .inr ⟨g, cap, cur.setIfInBounds i u, rfl, hb1, ?_, hn, hc, by simpa using hs', ?_⟩⟩, ?_⟩
    · obtain ⟨hlt, hk⟩ := Array.getElem?_eq_some_iff.1 hg
      show (w.heap.modify g _)[g]? = _
      rw [Array.getElem?_eq_getElem (by rw [Array.size_modify]; exact hlt), Array.getElem_modify_self, hk]
      rfl
    · rw [Array.toList_setIfInBounds, List.take_set, ht]
    · exact ⟨rfl, rfl, rfl, by simp, fun k _ hk => Below.heap_setCell _ _ _ k (fun e => hk (by rw [e]))⟩
theorem Wr.far {w w' : World} {b : Nat} {v : Value} {bs : List UInt8} {row : Option Nat} (h : Wr w b v bs) (hg : w.grownBy w' row) (h1 : row ≠ some b) (h2 : row = none ∨ row ≠ v.ownBlock) : Wr w' b v bs := by
  refine ⟨h.1.kept hg (fun e => h1 e.symm), ?_⟩
  obtain ⟨hl, h | ⟨g, cap, cur, rfl, hb1, hg', hn, hc, hs', ht⟩⟩ := h.2
  · exact ⟨hl, .inl h⟩
  · refine ⟨hl, .inr ⟨g, cap, cur, rfl, hb1, (hg.block g (Array.getElem?_eq_some_iff.1 hg').1 ?_).trans hg', hn, hc, hs', ht⟩⟩
    rcases h2 with h2 | h2
    · rw [h2]; simp
    · exact fun e => h2 e.symm
theorem own_far {w w' : World} {base : Nat} {e : TypeId} {size : Nat} {v : Value} {n : Nat} {xs : List Value} {row : Option Nat} (h : w.ownsRow base e size v n xs) (hg : w.grownBy w' row) (h2 : row = none ∨ row ≠ v.ownBlock) : w'.ownsRow base e size v n xs := by
  obtain ⟨hl, h | ⟨g, cap, cur, rfl, hb1, hg', hn, hc, hs', ht⟩⟩ := h
  · exact ⟨hl, .inl h⟩
  · refine ⟨hl, .inr ⟨g, cap, cur, rfl, hb1, (hg.block g (Array.getElem?_eq_some_iff.1 hg').1 ?_).trans hg', hn, hc, hs', ht⟩⟩
    rcases h2 with h2 | h2
    · rw [h2]; simp
    · exact fun e => h2 e.symm
/-- The value's block lies in a range. -/
def Span (lo hi : Nat) (v : Value) : Prop := ∀ g, v.ownBlock = some g → lo ≤ g ∧ g < hi
theorem own_span {w : World} {base : Nat} {e : TypeId} {size : Nat} {v : Value} {n : Nat} {xs : List Value} (h : w.ownsRow base e size v n xs) : Span base w.heap.size v := h.lt
theorem Span.mono {lo hi lo' hi' : Nat} {v : Value} (h : Span lo hi v) (h1 : lo' ≤ lo) (h2 : hi ≤ hi') : Span lo' hi' v := fun g hg => ⟨Nat.le_trans h1 (h g hg).1, Nat.lt_of_lt_of_le (h g hg).2 h2⟩
theorem Span.ne {lo hi lo' hi' : Nat} {v v' : Value} (h : Span lo hi v) (h' : Span lo' hi' v') (hd : hi ≤ lo' ∨ hi' ≤ lo) : v.ownBlock = none ∨ v.ownBlock ≠ v'.ownBlock := by
  rcases hq : v.ownBlock with _ | g
  · exact .inl rfl
  · refine .inr fun e => ?_
    have h1 := h g hq
    have h2 := h' g e.symm
    omega
theorem Span.nb {lo hi : Nat} {v : Value} (h : Span lo hi v) (b : Nat) (hd : hi ≤ b ∨ b < lo) : v.ownBlock ≠ some b := fun e => by
  have := h b e
  omega
/-- What a loop that overwrites an owned row holds. -/
def Over (w w' : World) (base : Nat) (e : TypeId) (v : Value) (n : Nat) : Prop := (∃ zs, w'.ownsRow base e 1 v n zs) ∧ w.grownBy w' v.ownBlock
theorem Over.start {w : World} {base : Nat} {e : TypeId} {v : Value} {n : Nat} {xs : List Value} (h : w.ownsRow base e 1 v n xs) : Over w w base e v n := ⟨⟨xs, h⟩, World.grownBy.refl _ _⟩
theorem Over.step {w w' : World} {base : Nat} {e : TypeId} {v : Value} {n : Nat} (h : Over w w' base e v n) (i : Nat) (hi : i < n) :
    ∃ g cap, v = .slice (some ⟨g, 0, none⟩) n cap ∧ n ≤ cap ∧ (∃ x, w'.cell? ⟨g, i, none⟩ = some x) ∧ w'.frozen? ⟨g, i, none⟩ = false ∧ ∀ u, Over w (w'.setCell ⟨g, i, none⟩ u) base e v n := by
  obtain ⟨⟨zs, h1⟩, h2⟩ := h
  obtain ⟨g, cap, rfl, h3, h4, h5, _, _⟩ := own_store h1 i hi (.bool true)
  refine ⟨g, cap, rfl, h3, h4, h5, fun u => ?_⟩
  obtain ⟨g', cap', e', _, _, _, h6, h7⟩ := own_store h1 i hi u
  cases e'
  exact ⟨⟨_, h6⟩, h2.trans h7⟩
end Go.Proofs.Ytpehnggglolnoaa
