/- The model of a disk: Crash. -/
import Derived.Test.YtmofakcpldbbmaaMdH
import Derived.Deep.Cut
import Derived.Deep.CutRange
namespace Go.Proofs.Ytmofakcpldbbmaa
open Go.RowKit

section
variable {w w' : World} {q gB gF : Nat} {vs : List Value} {bs : Nat → List UInt8} {fm : List Int} {room : Int} {off : Bool} {pl : Int} {Y : Nat → Prop}
/-- A row turned where it lies. -/
theorem MoR.rerow (h : MoR w q gB gF vs bs fm room off pl Y) {i g n c : Nat} (hv : vs[i]? = some (.slice (some ⟨g, 0, none⟩) n c)) {b : List UInt8} (hlen : b.length = n) (ho : w'.ownsRow 0 5 1 (.slice (some ⟨g, 0, none⟩) n c) n (b.map vB))
    (hs : w.heap.size ≤ w'.heap.size) (hg : ∀ x, x < w.heap.size → x ≠ g → w'.heap[x]? = w.heap[x]?) : MoR w' q gB gF vs (fun j => if j = i then b else bs j) fm room off pl Y := by
  obtain ⟨h1, h2⟩ := h.row i _ hv
  obtain ⟨e1, e2, e3, e4⟩ := h2 g rfl
  have hx := fun y (hy : Y y) (hyg : y ≠ g) => hg y (h.yl y hy) hyg
  refine ⟨(hx q h.yq (fun e => e2 e.symm)).trans h.blk, own_same h.ob (fun y e => by cases e; exact hx _ h.yb (fun e => e3 e.symm)), own_same h.of (fun y e => by cases e; exact hx _ h.yf (fun e => e4 e.symm)), h.qb, h.qf, h.bf, h.yq, h.yb, h.yf, fun j u hu => ?_, h.sep, fun y hy => Nat.lt_of_lt_of_le (h.yl y hy) hs⟩
  by_cases e : j = i
  · subst e
    rw [hv] at hu
    cases hu
    simp only [if_true]
    rw [hlen]
    exact ⟨ho, h2⟩
  · simp only [if_neg e]
    obtain ⟨h3, h4⟩ := h.row j u hu
    exact ⟨own_same h3 (fun y hy => hx y (h4 y hy).1 (fun e5 => h.sep j i u _ g e hu hv (by rw [← e5]; exact hy) rfl)), h4⟩
end
/-! what becomes of a disk, plainly -/
theorem invertL_skip (D : Dk) (p : Int → Bool) : ∀ (l : List Int) (n : Nat), (∀ k ∈ l, p k = false → (D.fs k).1.length = (D.fs k).2) → D.invertL (l.filter p) n = D.invertL l n
  | [], _, _ => rfl
  | k :: l, n, h => by
    have ih := fun n => invertL_skip D p l n (fun j hj => h j (by simp [hj]))
    rw [List.filter_cons]
    cases hp : p k
    · have := h k (by simp) hp
      rw [if_neg (by simp), ih n]
      conv => rhs; rw [Dk.invertL]
      rw [this, Nat.sub_self, Nat.mul_zero, if_neg (by omega), Nat.sub_zero]
    · rw [if_pos rfl, Dk.invertL, Dk.invertL, ih]
theorem cutI_some (D : Dk) (keep fl : List Int) (k : Int) : ∀ i, ((D.cutI keep fl i).1.fs k).1 ≠ [] → (D.fs k).1 ≠ []
  | 0, h => h
  | i + 1, h => by
    refine cutI_some D keep fl k i ?_
    intro e
    apply h
    show ((Dk.put _ _ _ _).fs k).1 = []
    simp only [Dk.put]
    split
    · rename_i hk
      rw [← hk, e, List.take_nil]
    · exact e
theorem cut_files (D : Dk) (keep fl : List Int) (i : Nat) : (D.cutI keep fl i).1.files = D.files.filter fun k => !((D.cutI keep fl i).1.fs k).1.isEmpty := by
  unfold Dk.files
  rw [List.filter_map, List.filter_filter]
  congr 1
  refine List.filter_congr fun j _ => ?_
  simp only [Function.comp_apply]
  cases h : ((D.cutI keep fl i).1.fs (j : Int)).1.isEmpty
  · have h2 := cutI_some D keep fl (j : Int) i (by simpa using h)
    have h3 : (D.fs (j : Int)).1.isEmpty = false := by simpa using h2
    rw [h3]
    rfl
  · rfl
theorem cut_ok {D : Dk} (h : DOk D) (keep fl : List Int) : ∀ i, i ≤ fl.length → (∀ k ∈ fl, 0 ≤ k ∧ k < 64) → DOk (D.cutI keep fl i).1
  | 0, _, _ => h
  | i + 1, hi, hm => by
    have ih := cut_ok h keep fl i (by omega) hm
    have hk : fl[i]? = some (fl[i]'(by omega)) := List.getElem?_eq_getElem (by omega)
    have hb := hm _ (List.getElem_mem (l := fl) (n := i) (by omega))
    show DOk (Dk.put _ (fl[i]?.getD 0) _ _)
    rw [hk, Option.getD_some]
    generalize fl[i]'(by omega) = k at hb ⊢
    have hd := ih.dur k
    have hkn := keptN_le keep i (((D.cutI keep fl i).1.fs k).1.length - ((D.cutI keep fl i).1.fs k).2)
    refine put_ok ih hb (by rw [List.length_take]; omega) ?_
    have hu := (D.cutI keep fl i).1.used_put k (((D.cutI keep fl i).1.fs k).1.take (((D.cutI keep fl i).1.fs k).2 + keptN keep i (((D.cutI keep fl i).1.fs k).1.length - ((D.cutI keep fl i).1.fs k).2))) ((D.cutI keep fl i).1.fs k).2 hb.1 hb.2
    rw [List.length_take] at hu
    have := ih.used
    omega
/-- Where the bit stands that is to be inverted. -/
def Ph (R E : Dk) (l : List Int) (at' : Int) : Prop := (0 ≤ at' ∧ E.invertL l at'.toNat = R) ∨ (at' < 0 ∧ E = R)
def Ph2 (R E : Dk) (rest : List Int) (f : Int) (d kk : Nat) (at' : Int) : Prop := (0 ≤ at' ∧ ∃ m : Nat, at' = (m : Int) - 8 * ((kk - d : Nat) : Int) ∧ E.invertL (f :: rest) m = R) ∨ (at' < 0 ∧ E = R)
theorem Ph.start {R E : Dk} {f : Int} {rest : List Int} {at' : Int} (h : Ph R E (f :: rest) at') (d : Nat) : Ph2 R E rest f d d at' := by
  rcases h with ⟨h0, h1⟩ | h
  · exact .inl ⟨h0, at'.toNat, by omega, h1⟩
  · exact .inr h
theorem Ph2.end' {R E : Dk} {f : Int} {rest : List Int} {at' : Int} {d L : Nat} (h : Ph2 R E rest f d L at') (hl : (E.fs f).1.length = L) (hd : (E.fs f).2 = d) : Ph R E rest at' := by
  rcases h with ⟨h0, m, h1, h2⟩ | h
  · rw [Dk.invertL, hl, hd, if_neg (by omega)] at h2
    refine .inl ⟨h0, ?_⟩
    rw [show at'.toNat = m - 8 * (L - d) by omega]
    exact h2
  · exact .inr h
theorem Ph2.next {R E : Dk} {f : Int} {rest : List Int} {at' : Int} {d kk : Nat} (h : Ph2 R E rest f d kk at') (hk : d ≤ kk) (hn : ¬ (0 ≤ at' ∧ at' < 8)) : Ph2 R E rest f d (kk + 1) (at' - 8) := by
  rcases h with ⟨h0, m, h1, h2⟩ | h
  · exact .inl ⟨by omega, m, by omega, h2⟩
  · exact .inr ⟨by omega, h.2⟩
theorem Ph2.flip {R E : Dk} {f : Int} {rest : List Int} {d kk r : Nat} (h : Ph2 R E rest f d kk (r : Int)) (hr : r < 8) (hk : d ≤ kk) (hkL : kk < (E.fs f).1.length) (hd : (E.fs f).2 = d) : E.put f (flipB (E.fs f).1 (8 * kk + r)) d = R := by
  rcases h with ⟨h0, m, h1, h2⟩ | h
  · rw [Dk.invertL, hd, if_pos (by omega)] at h2
    rw [show 8 * kk + r = 8 * d + m by omega]
    exact h2
  · omega
end Go.Proofs.Ytmofakcpldbbmaa
