/- Package edits and its model, plainly: moved edits stay in their text; what Make leaves. -/
import Derived.Test.YtpehnggglolnoaaTxtG
namespace Go.Proofs.Ytpehnggglolnoaa
open Go.RowKit

/-- Where a begin, an end moves. -/
def bgE (p : Int) (o : Ed) : Int := if p < o.a then p else if o.a + o.d ≤ p then p - o.d + (o.s.length : Int) else o.a + (o.s.length : Int)
def enE (p : Int) (o : Ed) : Int := if p ≤ o.a then p else if o.a + o.d ≤ p then p - o.d + (o.s.length : Int) else o.a
def mvE (e o : Ed) : Ed := ⟨bgE e.a o, if 0 < e.d then max 0 (enE (e.a + e.d) o - bgE e.a o) else 0, e.s⟩
/-- An edit within a text of n symbols; of few symbols. -/
def InT (n : Nat) (e : Ed) : Prop := 0 ≤ e.a ∧ 0 ≤ e.d ∧ e.a + e.d ≤ (n : Int)
def FewE (e : Ed) : Prop := e.s.length ≤ 3 ∧ ∀ x ∈ e.s, 0 ≤ x ∧ x ≤ 1000
theorem mvE_s (e o : Ed) : (mvE e o).s = e.s := rfl
theorem mvE_in {n m : Nat} {e o : Ed} (he : InT n e) (ho : InT n o) (hm : (m : Int) = (n : Int) - o.d + (o.s.length : Int)) : InT m (mvE e o) := by
  obtain ⟨h1, h2, h3⟩ := he
  obtain ⟨k1, k2, k3⟩ := ho
  have hs : 0 ≤ (o.s.length : Int) := by omega
  unfold InT mvE bgE enE
  simp only
  generalize (o.s.length : Int) = s at *
  by_cases hd : 0 < e.d
  · simp only [if_pos hd]
    rw [Int.max_def]
    split <;> split <;> split <;> (try split) <;> (try split) <;> omega
  · simp only [if_neg hd]
    split <;> (try split) <;> omega
theorem spl_len {l : List Int} {e : Ed} (h : InT l.length e) : ((spl l e).length : Int) = (l.length : Int) - e.d + (e.s.length : Int) := by
  obtain ⟨h1, h2, h3⟩ := h
  unfold spl
  simp only [List.length_append, List.length_take, List.length_drop]
  omega

/-- An item: client, number, base, edit. -/
structure It where
  c : Nat
  n : Nat
  b : Nat
  e : Ed
/-- How many items of a client. -/
def nxI (its : List It) (c : Nat) : Nat := (its.filter fun y => y.c == c).length
/-- The edit as it is applied. -/
def takeE (es : List Ed) (x : It) : Ed := (es.drop x.b).foldl mvE x.e
theorem foldl_s (es : List Ed) (e : Ed) : (es.foldl mvE e).s = e.s := by
  induction es generalizing e with
  | nil => rfl
  | cons o es ih => rw [List.foldl_cons, ih, mvE_s]
/-- What there is behind some items: the edits as they were applied, and the texts. -/
structure MadeOk (t0 : List Int) (its : List It) (es : List Ed) (ts : List (List Int)) : Prop where
  le : es.length = its.length
  lt : ts.length = its.length + 1
  h0 : ts.getD 0 [] = t0
  ed : ∀ i x, its[i]? = some x → es[i]? = some (takeE (es.take i) x)
  it : ∀ i x, its[i]? = some x → x.n = nxI (its.take i) x.c ∧ x.b ≤ i ∧ x.c ≤ 2 ∧ FewE x.e ∧ InT 100 x.e
  inT : ∀ i e, es[i]? = some e → InT (ts.getD i []).length e ∧ FewE e
  sp : ∀ i e, es[i]? = some e → ts.getD (i + 1) [] = spl (ts.getD i []) e
  len : ∀ i, (ts.getD i []).length ≤ 20 + 3 * i
theorem MadeOk.nil {t0 : List Int} (h : t0.length ≤ 20) : MadeOk t0 [] [] [t0] := by
  refine ⟨rfl, rfl, rfl, fun i x h => by simp at h, fun i x h => by simp at h, fun i x h => by simp at h, fun i x h => by simp at h, fun i => ?_⟩
  cases i with
  | zero => simpa using h
  | succ i => simp
section
variable {t0 : List Int} {its : List It} {es : List Ed} {ts : List (List Int)}
/-- An edit of the text behind its base, moved over those that came later, is one of the last text. -/
theorem MadeOk.moved (h : MadeOk t0 its es ts) {b : Nat} {e : Ed} (he : InT (ts.getD b []).length e) : ∀ k, b + k ≤ its.length → InT (ts.getD (b + k) []).length (((es.drop b).take k).foldl mvE e) := by
  intro k
  induction k with
  | zero => intro _; simpa using he
  | succ k ih =>
    intro hk
    have hi := ih (by omega)
    have hlt : b + k < es.length := by rw [h.le]; omega
    have ho := List.getElem?_eq_getElem hlt
    obtain ⟨i1, _⟩ := h.inT _ _ ho
    have hs := h.sp _ _ ho
    have e1 : (es.drop b).take (k + 1) = (es.drop b).take k ++ [es[b + k]] := by
      rw [List.take_succ_eq_append_getElem (by rw [List.length_drop]; omega), List.getElem_drop]
    rw [e1, List.foldl_append, List.foldl_cons, List.foldl_nil]
    have hm := spl_len i1
    rw [← hs] at hm
    exact mvE_in hi i1 hm
theorem MadeOk.takeIn (h : MadeOk t0 its es ts) {x : It} (hb : x.b ≤ its.length) (he : InT (ts.getD x.b []).length x.e) : InT (ts.getD its.length []).length (takeE es x) := by
  have := h.moved he (its.length - x.b) (by omega)
  rw [List.take_of_length_le (by rw [List.length_drop, h.le]; omega), show x.b + (its.length - x.b) = its.length from by omega] at this
  exact this
theorem getD_snoc_lt {α : Type} (l : List α) (a d : α) {i : Nat} (h : i < l.length) : (l ++ [a]).getD i d = l.getD i d := by
  rw [List.getD_eq_getElem?_getD, List.getD_eq_getElem?_getD, List.getElem?_append_left h]
theorem getD_snoc_eq {α : Type} (l : List α) (a d : α) {i : Nat} (h : i = l.length) : (l ++ [a]).getD i d = a := by
  subst h; rw [List.getD_eq_getElem?_getD]; simp
theorem snoc_some {α : Type} {l : List α} {a x : α} {i : Nat} (h : (l ++ [a])[i]? = some x) : (i < l.length ∧ l[i]? = some x) ∨ (i = l.length ∧ a = x) := by
  by_cases hi : i < l.length
  · rw [List.getElem?_append_left hi] at h; exact .inl ⟨hi, h⟩
  · rw [List.getElem?_append_right (by omega)] at h
    have : i - l.length = 0 := by
      cases hk : i - l.length with
      | zero => rfl
      | succ k => rw [hk] at h; simp at h
    rw [this] at h
    exact .inr ⟨by omega, by simpa using h⟩
theorem MadeOk.snoc (h : MadeOk t0 its es ts) {x : It} (hn : x.n = nxI its x.c) (hb : x.b ≤ its.length) (hc : x.c ≤ 2) (hf : FewE x.e) (he : InT (ts.getD x.b []).length x.e) (hi : its.length ≤ 6) :
    MadeOk t0 (its ++ [x]) (es ++ [takeE es x]) (ts ++ [spl (ts.getD its.length []) (takeE es x)]) := by
  have hin := h.takeIn hb he
  have hfew : FewE (takeE es x) := by unfold FewE takeE; rw [foldl_s]; exact hf
  have hsl := spl_len hin
  have hl1 := h.le
  have hl2 := h.lt
  refine ⟨by simp [h.le], by simp [h.lt], ?_, ?_, ?_, ?_, ?_, ?_⟩
  · rw [getD_snoc_lt _ _ _ (by omega), h.h0]
  · intro i y hy
    rcases snoc_some hy with ⟨h1, h2⟩ | ⟨rfl, rfl⟩
    · rw [List.getElem?_append_left (by omega), List.take_append_of_le_length (by omega)]
      exact h.ed i y h2
    · rw [List.take_append_of_le_length (by omega), List.take_of_length_le (by omega), List.getElem?_append_right (by omega), hl1]
      simp
  · intro i y hy
    rcases snoc_some hy with ⟨h1, h2⟩ | ⟨rfl, rfl⟩
    · rw [List.take_append_of_le_length (by omega)]
      exact h.it i y h2
    · rw [List.take_append_of_le_length (by omega), List.take_of_length_le (by omega)]
      have hl := h.len x.b
      exact ⟨hn, hb, hc, hf, he.1, he.2.1, by have := he.2.2; omega⟩
  · intro i y hy
    rcases snoc_some hy with ⟨h1, h2⟩ | ⟨rfl, rfl⟩
    · rw [getD_snoc_lt _ _ _ (by omega)]
      exact h.inT i y h2
    · rw [getD_snoc_lt _ _ _ (by omega), hl1]
      exact ⟨hin, hfew⟩
  · intro i y hy
    rcases snoc_some hy with ⟨h1, h2⟩ | ⟨rfl, rfl⟩
    · rw [getD_snoc_lt _ _ _ (by omega), getD_snoc_lt _ _ _ (by omega)]
      exact h.sp i y h2
    · rw [getD_snoc_eq _ _ _ (by omega), getD_snoc_lt _ _ _ (by omega), hl1]
  · intro i
    by_cases hi1 : i < ts.length
    · rw [getD_snoc_lt _ _ _ hi1]; exact h.len i
    · by_cases hi2 : i = ts.length
      · rw [getD_snoc_eq _ _ _ hi2]
        have hl := h.len its.length
        have h3 := hin.2.1
        have h4 := hfew.1
        omega
      · rw [List.getD_eq_getElem?_getD, List.getElem?_eq_none (by simp; omega)]
        simp
end
end Go.Proofs.Ytpehnggglolnoaa
