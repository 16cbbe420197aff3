/- Package text and its model: Assert. -/
import Derived.Test.YtcknnlbfbjcjjaaDoorTxtA
namespace Go.Proofs.YtcknnlbfbjcjjaaDoor
open Go.RowKit

/-- What an assertion says inside a text: of the symbol before (if there is one) and the one behind. -/
def assO (k : Int) (before after : Option Int) : Bool :=
  if k = 0 then before.isNone else if k = 1 then after.isNone
  else if k = 2 then before.isNone || (before == some 10)
  else if k = 3 then after.isNone || (after == some 10)
  else if k = 4 then (before.any wordS) != (after.any wordS) else if k = 5 then (before.any wordS) == (after.any wordS) else false
/-- The assertions at a position. -/
def assP (k : Int) (l : List Int) (p : Int) : Bool :=
  if p < 0 ∨ (l.length : Int) < p then false else assO k (if p = 0 then none else l[p.toNat - 1]?) l[p.toNat]?
theorem assP_in (k : Int) (l : List Int) (p : Nat) (h : p ≤ l.length) : assP k l (p : Int) = assO k (if p = 0 then none else l[p - 1]?) l[p]? := by
  unfold assP
  rw [if_neg (by omega)]
  simp

set_option maxHeartbeats 4000000 in
theorem assert_any (k : Int) (v : Value) (l : List Int) (p : Int) (w : World) (hv : Rv w v l.length (l.map (Value.int .i64))) (hl : l.length ≤ 1099511627776) :
    Calls Tryd.prog 28 #[.int .i64 k, v, .int .i64 p] w fun e w' => e = .returned (.bool (assP k l p)) ∧ w = w' := by
  obtain ⟨ao, cap, rfl, hcap, hrd⟩ := hv.opened
  by_cases h0 : p < 0
  · have hq : assP k l p = false := by unfold assP; rw [if_pos (.inl h0)]
    rw [hq]
    go_enter Tryd.func28, Tryd.ntmps28
    go_wp2_with fail
    go_ret
    exact ⟨rfl, rfl⟩
  by_cases h1 : (l.length : Int) < p
  · have hq : assP k l p = false := by unfold assP; rw [if_pos (.inr h1)]
    rw [hq]
    go_enter Tryd.func28, Tryd.ntmps28
    go_wp2_with fail
    go_ret
    exact ⟨rfl, rfl⟩
  obtain ⟨q, rfl⟩ : ∃ q : Nat, p = (q : Int) := ⟨p.toNat, by omega⟩
  have hql : q ≤ l.length := by omega
  rw [assP_in k l q hql]
  clear h0 h1
  have hB : (q = 0 ∧ (if q = 0 then none else l[q - 1]?) = none) ∨ ∃ r x, q = r + 1 ∧ (if q = 0 then none else l[q - 1]?) = some x ∧ l[r]? = some x := by
    cases q with
    | zero => exact .inl ⟨rfl, rfl⟩
    | succ r => exact .inr ⟨r, l[r], rfl, by simp, List.getElem?_eq_getElem (by omega)⟩
  have hA : (q = l.length ∧ l[q]? = none) ∨ ∃ y, q < l.length ∧ l[q]? = some y := by
    by_cases h : q < l.length
    · exact .inr ⟨l[q], h, List.getElem?_eq_getElem h⟩
    · exact .inl ⟨by omega, List.getElem?_eq_none (by omega)⟩
  generalize (if q = 0 then none else l[q - 1]?) = before at *
  have hk : (k = 0 ∨ k = 1 ∨ k = 2 ∨ k = 3 ∨ k = 4 ∨ k = 5) ∨ ((k == 0) = false ∧ (k == 1) = false ∧ (k == 2) = false ∧ (k == 3) = false ∧ (k == 4) = false ∧ (k == 5) = false ∧ ∀ a b, assO k a b = false) := by
    by_cases h : k = 0 ∨ k = 1 ∨ k = 2 ∨ k = 3 ∨ k = 4 ∨ k = 5
    · exact .inl h
    · refine .inr ⟨by simp; omega, by simp; omega, by simp; omega, by simp; omega, by simp; omega, by simp; omega, fun a b => ?_⟩
      unfold assO
      rw [if_neg (by omega), if_neg (by omega), if_neg (by omega), if_neg (by omega), if_neg (by omega), if_neg (by omega)]
  rcases hB with ⟨hq0, rfl⟩ | ⟨r, x, hq0, rfl, hx⟩
  · rcases hA with ⟨hq1, hy⟩ | ⟨y, hq1, hy⟩
    · rw [hy]
      subst hq0
      clear hy hrd hv
      generalize l.length = n at *
      subst hq1
      rw [show ((0 : Nat) : Int) = 0 from rfl]
      rcases hk with (rfl | rfl | rfl | rfl | rfl | rfl) | ⟨e0, e1, e2, e3, e4, e5, hall⟩
      all_goals
        go_enter Tryd.func28, Tryd.ntmps28
        go_wp2_with (go_at_call 31; refine (word_any _ _).mono ?_; rintro e w' ⟨rfl, rfl⟩)
        all_goals
          go_ret
          refine ⟨ret_bool ?_, rfl⟩
          first
          | (rw [hall]; done)
          | (rw [hall]; rfl)
          | (simp [assO]
             done)
          | (simp [assO]
             omega)
          | (simp [assO]
             intro h
             omega)
          | (simp only [assO]
             generalize wordS _ = b1
             generalize wordS _ = b2
             cases b1 <;> cases b2 <;> rfl)
          | (simp [assO]
             cases wordS x <;> cases wordS y <;> rfl)
    · rw [hy]
      obtain ⟨b2, off2, rfl, c2⟩ := hrd.cell (i := q) (u := .int .i64 y) (by simp [hy])
      subst hq0
      rw [Nat.add_zero] at c2
      clear hy hrd hv
      generalize l.length = n at *
      rw [show ((0 : Nat) : Int) = 0 from rfl]
      rcases hk with (rfl | rfl | rfl | rfl | rfl | rfl) | ⟨e0, e1, e2, e3, e4, e5, hall⟩
      all_goals
        go_enter Tryd.func28, Tryd.ntmps28
        go_wp2_with (go_at_call 31; refine (word_any _ _).mono ?_; rintro e w' ⟨rfl, rfl⟩)
        all_goals
          go_ret
          refine ⟨ret_bool ?_, rfl⟩
          first
          | (rw [hall]; done)
          | (rw [hall]; rfl)
          | (simp [assO]
             done)
          | (simp [assO]
             omega)
          | (simp [assO]
             intro h
             omega)
          | (simp only [assO]
             generalize wordS _ = b1
             generalize wordS _ = b2
             cases b1 <;> cases b2 <;> rfl)
          | (simp [assO]
             cases wordS x <;> cases wordS y <;> rfl)
  · rcases hA with ⟨hq1, hy⟩ | ⟨y, hq1, hy⟩
    · rw [hy]
      obtain ⟨b1, off1, rfl, c1⟩ := hrd.cell (i := r) (u := .int .i64 x) (by simp [hx])
      clear hx hy hrd hv
      generalize l.length = n at *
      subst hq0
      subst hq1
      rcases hk with (rfl | rfl | rfl | rfl | rfl | rfl) | ⟨e0, e1, e2, e3, e4, e5, hall⟩
      all_goals
        go_enter Tryd.func28, Tryd.ntmps28
        go_wp2_with (go_at_call 31; refine (word_any _ _).mono ?_; rintro e w' ⟨rfl, rfl⟩)
        all_goals
          go_ret
          refine ⟨ret_bool ?_, rfl⟩
          first
          | (rw [hall]; done)
          | (rw [hall]; rfl)
          | (simp [assO]
             done)
          | (simp [assO]
             omega)
          | (simp [assO]
             intro h
             omega)
          | (simp only [assO]
             generalize wordS _ = b1
             generalize wordS _ = b2
             cases b1 <;> cases b2 <;> rfl)
          | (simp [assO]
             cases wordS x <;> cases wordS y <;> rfl)
    · rw [hy]
      obtain ⟨b1, off1, rfl, c1⟩ := hrd.cell (i := r) (u := .int .i64 x) (by simp [hx])
      obtain ⟨b2, off2, he2, c2⟩ := hrd.cell (i := q) (u := .int .i64 y) (by simp [hy])
      cases he2
      subst hq0
      clear hx hy hrd hv
      generalize l.length = n at *
      rcases hk with (rfl | rfl | rfl | rfl | rfl | rfl) | ⟨e0, e1, e2, e3, e4, e5, hall⟩
      all_goals
        go_enter Tryd.func28, Tryd.ntmps28
        go_wp2_with (go_at_call 31; refine (word_any _ _).mono ?_; rintro e w' ⟨rfl, rfl⟩)
        all_goals
          go_ret
          refine ⟨ret_bool ?_, rfl⟩
          first
          | (rw [hall]; done)
          | (rw [hall]; rfl)
          | (simp [assO]
             done)
          | (simp [assO]
             omega)
          | (simp [assO]
             intro h
             omega)
          | (simp only [assO]
             generalize wordS _ = b1
             generalize wordS _ = b2
             cases b1 <;> cases b2 <;> rfl)
          | (simp [assO]
             cases wordS x <;> cases wordS y <;> rfl)

set_option maxHeartbeats 4000000 in
theorem rassert_any (k : Int) (v : Value) (l : List Int) (p : Int) (w : World) (hv : Rv w v l.length (l.map (Value.int .i64))) (hl : l.length ≤ 1099511627776) :
    Calls Tryd.prog 29 #[.int .i64 k, v, .int .i64 p] w fun e w' => e = .returned (.bool (assP k l p)) ∧ w = w' := by
  obtain ⟨ao, cap, rfl, hcap, hrd⟩ := hv.opened
  by_cases h0 : p < 0
  · have hq : assP k l p = false := by unfold assP; rw [if_pos (.inl h0)]
    rw [hq]
    go_enter Tryd.func29, Tryd.ntmps29
    go_wp2_with fail
    go_ret
    exact ⟨rfl, rfl⟩
  by_cases h1 : (l.length : Int) < p
  · have hq : assP k l p = false := by unfold assP; rw [if_pos (.inr h1)]
    rw [hq]
    go_enter Tryd.func29, Tryd.ntmps29
    go_wp2_with fail
    go_ret
    exact ⟨rfl, rfl⟩
  obtain ⟨q, rfl⟩ : ∃ q : Nat, p = (q : Int) := ⟨p.toNat, by omega⟩
  have hql : q ≤ l.length := by omega
  rw [assP_in k l q hql]
  clear h0 h1
  have hB : (q = 0 ∧ (if q = 0 then none else l[q - 1]?) = none) ∨ ∃ r x, q = r + 1 ∧ (if q = 0 then none else l[q - 1]?) = some x ∧ l[r]? = some x := by
    cases q with
    | zero => exact .inl ⟨rfl, rfl⟩
    | succ r => exact .inr ⟨r, l[r], rfl, by simp, List.getElem?_eq_getElem (by omega)⟩
  have hA : (q = l.length ∧ l[q]? = none) ∨ ∃ y, q < l.length ∧ l[q]? = some y := by
    by_cases h : q < l.length
    · exact .inr ⟨l[q], h, List.getElem?_eq_getElem h⟩
    · exact .inl ⟨by omega, List.getElem?_eq_none (by omega)⟩
  generalize (if q = 0 then none else l[q - 1]?) = before at *
  have hk : (k = 0 ∨ k = 1 ∨ k = 2 ∨ k = 3 ∨ k = 4 ∨ k = 5) ∨ ((k == 0) = false ∧ (k == 1) = false ∧ (k == 2) = false ∧ (k == 3) = false ∧ (k == 4) = false ∧ (k == 5) = false ∧ ∀ a b, assO k a b = false) := by
    by_cases h : k = 0 ∨ k = 1 ∨ k = 2 ∨ k = 3 ∨ k = 4 ∨ k = 5
    · exact .inl h
    · refine .inr ⟨by simp; omega, by simp; omega, by simp; omega, by simp; omega, by simp; omega, by simp; omega, fun a b => ?_⟩
      unfold assO
      rw [if_neg (by omega), if_neg (by omega), if_neg (by omega), if_neg (by omega), if_neg (by omega), if_neg (by omega)]
  rcases hB with ⟨hq0, rfl⟩ | ⟨r, x, hq0, rfl, hx⟩
  · rcases hA with ⟨hq1, hy⟩ | ⟨y, hq1, hy⟩
    · rw [hy]
      subst hq0
      clear hy hrd hv
      generalize l.length = n at *
      subst hq1
      rw [show ((0 : Nat) : Int) = 0 from rfl]
      rcases hk with (rfl | rfl | rfl | rfl | rfl | rfl) | ⟨e0, e1, e2, e3, e4, e5, hall⟩
      all_goals
        go_enter Tryd.func29, Tryd.ntmps29
        go_wp2_with (go_at_call 32; refine (rword_any _ _).mono ?_; rintro e w' ⟨rfl, rfl⟩)
        all_goals
          go_ret
          refine ⟨ret_bool ?_, rfl⟩
          first
          | (rw [hall]; done)
          | (rw [hall]; rfl)
          | (simp [assO]
             done)
          | (simp [assO]
             omega)
          | (simp [assO]
             intro h
             omega)
          | (simp only [assO]
             generalize wordS _ = b1
             generalize wordS _ = b2
             cases b1 <;> cases b2 <;> rfl)
          | (simp [assO]
             cases wordS x <;> cases wordS y <;> rfl)
    · rw [hy]
      obtain ⟨b2, off2, rfl, c2⟩ := hrd.cell (i := q) (u := .int .i64 y) (by simp [hy])
      subst hq0
      rw [Nat.add_zero] at c2
      clear hy hrd hv
      generalize l.length = n at *
      rw [show ((0 : Nat) : Int) = 0 from rfl]
      rcases hk with (rfl | rfl | rfl | rfl | rfl | rfl) | ⟨e0, e1, e2, e3, e4, e5, hall⟩
      all_goals
        go_enter Tryd.func29, Tryd.ntmps29
        go_wp2_with (go_at_call 32; refine (rword_any _ _).mono ?_; rintro e w' ⟨rfl, rfl⟩)
        all_goals
          go_ret
          refine ⟨ret_bool ?_, rfl⟩
          first
          | (rw [hall]; done)
          | (rw [hall]; rfl)
          | (simp [assO]
             done)
          | (simp [assO]
             omega)
          | (simp [assO]
             intro h
             omega)
          | (simp only [assO]
             generalize wordS _ = b1
             generalize wordS _ = b2
             cases b1 <;> cases b2 <;> rfl)
          | (simp [assO]
             cases wordS x <;> cases wordS y <;> rfl)
  · rcases hA with ⟨hq1, hy⟩ | ⟨y, hq1, hy⟩
    · rw [hy]
      obtain ⟨b1, off1, rfl, c1⟩ := hrd.cell (i := r) (u := .int .i64 x) (by simp [hx])
      clear hx hy hrd hv
      generalize l.length = n at *
      subst hq0
      subst hq1
      rcases hk with (rfl | rfl | rfl | rfl | rfl | rfl) | ⟨e0, e1, e2, e3, e4, e5, hall⟩
      all_goals
        go_enter Tryd.func29, Tryd.ntmps29
        go_wp2_with (go_at_call 32; refine (rword_any _ _).mono ?_; rintro e w' ⟨rfl, rfl⟩)
        all_goals
          go_ret
          refine ⟨ret_bool ?_, rfl⟩
          first
          | (rw [hall]; done)
          | (rw [hall]; rfl)
          | (simp [assO]
             done)
          | (simp [assO]
             omega)
          | (simp [assO]
             intro h
             omega)
          | (simp only [assO]
             generalize wordS _ = b1
             generalize wordS _ = b2
             cases b1 <;> cases b2 <;> rfl)
          | (simp [assO]
             cases wordS x <;> cases wordS y <;> rfl)
    · rw [hy]
      obtain ⟨b1, off1, rfl, c1⟩ := hrd.cell (i := r) (u := .int .i64 x) (by simp [hx])
      obtain ⟨b2, off2, he2, c2⟩ := hrd.cell (i := q) (u := .int .i64 y) (by simp [hy])
      cases he2
      subst hq0
      clear hx hy hrd hv
      generalize l.length = n at *
      rcases hk with (rfl | rfl | rfl | rfl | rfl | rfl) | ⟨e0, e1, e2, e3, e4, e5, hall⟩
      all_goals
        go_enter Tryd.func29, Tryd.ntmps29
        go_wp2_with (go_at_call 32; refine (rword_any _ _).mono ?_; rintro e w' ⟨rfl, rfl⟩)
        all_goals
          go_ret
          refine ⟨ret_bool ?_, rfl⟩
          first
          | (rw [hall]; done)
          | (rw [hall]; rfl)
          | (simp [assO]
             done)
          | (simp [assO]
             omega)
          | (simp [assO]
             intro h
             omega)
          | (simp only [assO]
             generalize wordS _ = b1
             generalize wordS _ = b2
             cases b1 <;> cases b2 <;> rfl)
          | (simp [assO]
             cases wordS x <;> cases wordS y <;> rfl)

end Go.Proofs.YtcknnlbfbjcjjaaDoor
