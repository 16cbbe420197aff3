/- A drawing region walked by hand, for regions with a guard that is false and calls that make memory. Program-independent. -/
import Derived.Test.YtpehnggglolnoaaGreatLib
import Derived.RegionTactic
namespace Go.Proofs.YtpehnggglolnoaaGreat
open Go.RowKit

/-- The operation i runs next; it turns nothing but its own slot. -/
theorem wpAny_do {P : Program} {ops : Array Oper} {Q : Exit → Act → World → Prop} {md : Region.Mode} (i : Nat) (t : Tmp) {oi : Oper} {v : Value} {fuel : Nat} {listed : Array Bool} {tmps : Array Value} {ds : List Deferred} {w : World}
    (hi : ops[i]? = some oi) (hd : oi.dst = some t)
    (hs : Region.noSelect ops = true) (hf : Region.free md ops listed i = true) (hr : (Region.ready md ops listed).contains i = true)
    (hQ : ∀ c (u v : Array Value) d w, Q (.panic c) ⟨u, d⟩ w → Q (.panic c) ⟨v, d⟩ w) (hw : Region.wanted oi (yielded ops tmps) = true) (hx : ∀ w, (execOp (Act.eval ⟨tmps, ds⟩) oi).run P w = .ok (.value v) w)
    (h : wpAny P md ops Q fuel (listed.setIfInBounds i true) ⟨tmps.setIfInBounds t v, ds⟩ w) : wpAny P md ops Q (fuel + 1) listed ⟨tmps, ds⟩ w := by
  refine wpAny_take hi hs hf hr (fun c a w h => by rw [hd] at h; exact hQ c _ _ _ w h) (.inl ⟨hw, hx⟩) ?_
  rw [hd]
  exact h

/-- The operation i is guarded and does not run. -/
theorem wpAny_skip {P : Program} {ops : Array Oper} {Q : Exit → Act → World → Prop} {md : Region.Mode} (i : Nat) (t : Tmp) {oi : Oper} {fuel : Nat} {listed : Array Bool} {tmps : Array Value} {ds : List Deferred} {w : World}
    (hi : ops[i]? = some oi) (hd : oi.dst = some t)
    (hs : Region.noSelect ops = true) (hf : Region.free md ops listed i = true) (hr : (Region.ready md ops listed).contains i = true)
    (hQ : ∀ c (u v : Array Value) d w, Q (.panic c) ⟨u, d⟩ w → Q (.panic c) ⟨v, d⟩ w) (hw : Region.wanted oi (yielded ops tmps) = false)
    (h : wpAny P md ops Q fuel (listed.setIfInBounds i true) ⟨tmps.setIfInBounds t undef, ds⟩ w) : wpAny P md ops Q (fuel + 1) listed ⟨tmps, ds⟩ w := by
  refine wpAny_take hi hs hf hr (fun c a w h => by rw [hd] at h; exact hQ c _ _ _ w h) (.inr ⟨hw, rfl⟩) ?_
  rw [hd]
  exact h

/-- The operation i alone may come up, and is a call that the prover meets. -/
theorem wpAny_call {P : Program} {ops : Array Oper} {Q : Exit → Act → World → Prop} {md : Region.Mode} (i : Nat) {oi : Oper} {fuel : Nat} {listed : Array Bool} {a : Act} {w : World}
    (hi : ops[i]? = some oi) (hr : Region.ready md ops listed = [i]) (hw : Region.wanted oi (yielded ops a.tmps) = true)
    (h : ∀ K' : Act → World → Prop, (∀ a w, wpAny P md ops Q fuel (listed.setIfInBounds i true) a w → K' a w) → Oper.wp P oi a w K' Q) : wpAny P md ops Q (fuel + 1) listed a w :=
  wpAny_ready hr (by simp) (AllReady.cons hi (fun K' hK => by rw [if_pos hw]; exact h K' hK) AllReady.nil)

/-- wpList_app at a guarded operation that runs. -/
theorem wpList_appg {P : Program} (w : World) {ops : Array Oper} {rest : List Oper} {o : Oper} {a : Act} {Q : Exit → Act → World → Prop} (hwt : Region.wanted o (yielded ops a.tmps) = true) (s x : Operand) {t e : TypeId} {z : Value} {size bytes : Nat}
    (ho : o.op = .call { callee := .builtin .append, args := #[s, x], argTypes := #[t, t] })
    (E : Elem P t e z size bytes) (base : Nat)
    (v : Value) (n : Nat) (xs : List Value) (hs : a.eval s = v) (hown : w.ownsRow base e size v n xs)
    (y : Value) (m : Nat) (news : List Value) (hx : a.eval x = y) (hy : Rv w y m news) (hl : news.length = m * size) (h1 : ∀ u ∈ news, u.oneCell' = true)
    (hbytes : (n + m) * bytes ≤ 140737488355328) (hbase : base ≤ w.heap.size)
    (h : ∀ v' w', w'.ownsRow base e size v' (n + m) (xs ++ news) → w.grownBy w' v.ownBlock → (v' = .slice none 0 0 ↔ v = .slice none 0 0 ∧ m = 0) → wpList P ops Q rest (a.put o.dst v') w') : wpList P ops Q (o :: rest) a w := by
  obtain ⟨i, hi, hz, hsize, hby⟩ := info_parts E.info
  have hle : n + m ≤ (n + m) * bytes := Nat.le_mul_of_pos_right _ E.hby
  refine wpList_step fun K hK => ?_
  rw [if_pos hwt]
  obtain ⟨v', w', hr, h2, h3, h4⟩ := run_append_rd (P := P) w base t o.type e i z size bytes E.ht hi hz hsize hby E.hzs E.hsz v n xs hown y m news hy hl h1 (by unfold maxLen; omega) hbytes hbase
  unfold Oper.wp execOp
  simp only [ho, resolve, invoke, builtin, Sem.run_bind, Sem.run_pure, Result.andThen_ok, List.map_toArray, List.map_cons, List.map_nil, hs, hx, hr]
  exact hK _ _ (h v' w' h2 h3 h4)
end Go.Proofs.YtpehnggglolnoaaGreat
