/- The model of package text: Undo. -/
import Derived.Test.YtpehnggglolnoaaTxtI
import Derived.Deep.RegionLaw
namespace Go.Proofs.Ytpehnggglolnoaa
open Go.RowKit

/-- append of one element, at a step of a region that draws. -/
theorem step_app1 {P : Program} {w : World} {ops : Array Oper} {o : Oper} {a : Act} {K : Act → World → Prop} {Q : Exit → Act → World → Prop} {R : Prop} (hgd : o.guard = none) (s x : Operand) {t e : TypeId} {z : Value} {bytes : Nat}
    (ho : o.op = .call { callee := .builtin .append, args := #[s, x], argTypes := #[t, t] })
    (E : Elem P t e z 1 bytes) (base : Nat)
    (v : Value) (n : Nat) (xs : List Value) (hs : a.eval s = v) (hown : w.ownsRow base e 1 v n xs)
    (H : Nat) (u : Value) (hx : a.eval x = .slice (some ⟨H, 0, none⟩) 1 1) (hb : Rv w (.slice (some ⟨H, 0, none⟩) 1 1) 1 [u]) (h1 : u.oneCell' = true)
    (hbytes : (n + 1) * bytes ≤ 140737488355328) (hbase : base ≤ w.heap.size)
    (h : ∀ v' w', w'.ownsRow base e 1 v' (n + 1) (xs ++ [u]) → w.grownBy w' v.ownBlock → SameOrNew w v v' → K (a.put o.dst v') w') :
    if Region.wanted o (yielded ops a.tmps) = true then Oper.wp P o a w K Q else R := by
  have hw : Region.wanted o (yielded ops a.tmps) = true := by simp [Region.wanted, hgd]
  rw [if_pos hw]
  obtain ⟨i, hi, hz, hsize, hby⟩ := info_parts E.info
  have hle : n + 1 ≤ (n + 1) * bytes := Nat.le_mul_of_pos_right _ E.hby
  obtain ⟨v', w', hr, h2, h3, h4⟩ := run_append_rd2 (P := P) w base t o.type e i z 1 bytes E.ht hi hz hsize hby E.hzs E.hsz v n xs hown _ 1 [u] hb rfl (ones1 u h1) (by unfold maxLen; omega) hbytes hbase
  unfold Oper.wp execOp
  simp only [ho, resolve, invoke, builtin, Sem.run_bind, Sem.run_pure, Result.andThen_ok, List.map_toArray, List.map_cons, List.map_nil, hs, hx, hr]
  exact h v' w' h2 h3 h4

theorem results_edit1 {fn : Func} {p : Tmp} (hf : fn.results = #[.cell p 45]) (tmps : Array Value) {w : World} {b : Nat} {c0 c1 c2 : Value}
    (hp : tmps.getD p undef = .pointer (some ⟨b, 0, none⟩)) (h : Box3 w b c0 c1 c2) : (results fn tmps).run Try.prog w = .ok (.agg #[c0, c1, c2]) w := by
  have hp' : tmps[p]?.getD undef = .pointer (some ⟨b, 0, none⟩) := by simpa using hp
  have k0 := h.k0
  have k1 := h.k1
  have k2 := h.k2
  simp [results, hf, hp', go_sem, k0, k1, k2, Result.andThen]
theorem Box3.s2 {w : World} {b : Nat} {c0 c1 c2 : Value} (h : Box3 w b c0 c1 c2) (x : Value) : Box3 (w.setCell ⟨b, 2, none⟩ x) b c0 c1 x := heap_set3 h 2 x
theorem own_set {w : World} {base b : Nat} {e : TypeId} {size : Nat} {v : Value} {n : Nat} {xs : List Value} (h : w.ownsRow base e size v n xs) (hb : b < base) (j : Nat) (x : Value) : (w.setCell ⟨b, j, none⟩ x).ownsRow base e size v n xs := by
  obtain ⟨hl, h | ⟨g, cap, cur, rfl, hb1, hg, hn, hc, hs, ht⟩⟩ := h
  · exact ⟨hl, .inl h⟩
  · exact ⟨hl, .inr ⟨g, cap, cur, rfl, hb1, (Below.heap_setCell _ _ _ _ (by show g ≠ b; omega)).trans hg, hn, hc, hs, ht⟩⟩

/-- An edit with a new list. -/
def EdPost (w : World) (u : Ed) (en : Ending) (w' : World) : Prop := ∃ v', en = .returned (u.val v') ∧ w'.ownsRow w.heap.size 3 1 v' u.s.length (u.s.map (Value.int .i64)) ∧ Below w.heap.size w w'

end Go.Proofs.Ytpehnggglolnoaa
