/- The law TextDecodes: the list of byte slices, whose making leaves its order open. -/
import Derived.Test.YtcknnlbfbjcjjaaDoorTxtE1
import Derived.Test.YtcknnlbfbjcjjaaDoorTxtY
import Derived.Test.YtcknnlbfbjcjjaaDoorTake
namespace Go.Proofs.YtcknnlbfbjcjjaaDoor
open Go.RowKit

/-- A goal 'wpAny' behind a name. -/
theorem wpAny_named {P : Program} {md : Region.Mode} {ops : Array Oper} {Q : Exit → Act → World → Prop} {f : Nat} {l : Array Bool} {t : Array Value} {ds : List Deferred} {w : World}
    (h : ∀ (G : Nat → Array Bool → Array Value → World → Prop) (T0 : Array Value), T0 = t → (∀ f l t w, wpAny P md ops Q f l ⟨t, ds⟩ w → G f l t w) → (∀ f l t w, G f l t w → wpAny P md ops Q f l ⟨t, ds⟩ w) → G f l T0 w) : wpAny P md ops Q f l ⟨t, ds⟩ w :=
  h (fun f l t w => wpAny P md ops Q f l ⟨t, ds⟩ w) t rfl (fun _ _ _ _ h => h) (fun _ _ _ _ h => h)

def liveD (p k : Nat) : Prop := k = 41 ∨ (k = 43 ∧ p ≤ 1) ∨ (k = 45 ∧ p = 2) ∨ (k = 47 ∧ p ≤ 2) ∨ k = 48 ∨ (k = 57 ∧ p ≤ 5) ∨ k = 59
theorem Rv.far {w w' : World} {v : Value} {n : Nat} {us : List Value} {row : Option Nat} (h : Rv w v n us) (hg : w.grownBy w' row) (h2 : row = none ∨ row ≠ v.ownBlock) : Rv w' v n us := by
  obtain ⟨ao, cap, rfl, h1, h3, h4, h5⟩ := h
  refine ⟨ao, cap, rfl, h1, h3, h4, ?_⟩
  rcases h5 with h5 | ⟨g, off, rfl, h5⟩
  · exact .inl h5
  · refine .inr ⟨g, off, rfl, fun i u hi => ?_⟩
    have hc := h5 i u hi
    have hlt := World.block_lt_of_cell? w _ hc
    unfold World.cell? at hc ⊢
    rw [hg.block g hlt (by rcases h2 with h2 | h2; · rw [h2]; simp
                           · exact fun e => h2 e.symm)]
    exact hc
theorem own_farD {w w' : World} {base : Nat} {e : TypeId} {size : Nat} {v : Value} {n : Nat} {xs : List Value} {row : Option Nat} (h : w.ownsRow base e size v n xs) (hg : w.grownBy w' row) (h2 : row = none ∨ row ≠ v.ownBlock) : w'.ownsRow base e size v n xs := by
  obtain ⟨hl, h | ⟨g, cap, cur, rfl, hb1, hg1, hn, hc, hs', ht⟩⟩ := h
  · exact ⟨hl, .inl h⟩
  · refine ⟨hl, .inr ⟨g, cap, cur, rfl, hb1, ?_, hn, hc, hs', ht⟩⟩
    rw [hg.block g (Array.getElem?_eq_some_iff.1 hg1).1 (by rcases h2 with h2 | h2; · rw [h2]; simp
                                                            · exact fun e => h2 e.symm)]
    exact hg1
theorem tset_ne (T : Array Value) {k j : Nat} (v : Value) (h : j ≠ k) : (T.setIfInBounds k v)[j]? = T[j]? := by
  rw [Array.getElem?_setIfInBounds_ne (fun e => h e.symm)]
theorem tset_self (T : Array Value) {k : Nat} (v : Value) (h : k < T.size) : (T.setIfInBounds k v)[k]? = some v := by
  rw [Array.getElem?_setIfInBounds_self_of_lt h]

/-- What is known when p operations of the chain (Few, append, append, Around, Few, append) and these floating literals are through. -/
structure StD (w4 : World) (T0 : Array Value) (b : List UInt8) (c : UInt8) (ab : Option Addr) (cb : Nat) (p : Nat) (f4 f8 f18 : Bool) (T : Array Value) (w : World) : Prop where
  bel : Below w4.heap.size w4 w
  size : T.size = 96
  keep : ∀ k, k ≠ 41 → k ≠ 43 → k ≠ 45 → k ≠ 47 → k ≠ 48 → k ≠ 54 → k ≠ 55 → k ≠ 57 → k ≠ 59 → k ≠ 60 → T[k]? = T0[k]?
  fresh : ∀ k, liveD p k → ∀ v g, T[k]? = some v → v.ownBlock = some g → g < w.heap.size
  dist : ∀ i j, liveD p i → liveD p j → i ≠ j → ∀ v u g, T[i]? = some v → T[j]? = some u → v.ownBlock = some g → u.ownBlock ≠ some g
  s41 : 1 ≤ p → ∃ (a : Option Addr) (cp : Nat) (q : List UInt8), T[41]? = some (.slice a q.length cp) ∧ q.length ≤ 40 ∧ Rv w (.slice a q.length cp) q.length (q.map vB)
  s43 : f4 = true → p ≤ 1 → ∃ v, T[43]? = some v ∧ w.ownsRow w4.heap.size 5 1 v 0 []
  s45 : p = 2 → ∃ v, T[45]? = some v ∧ w.ownsRow w4.heap.size 5 1 v b.length (b.map vB)
  s47 : f8 = true → p ≤ 2 → ∃ v, T[47]? = some v ∧ Rv w v 1 [vB c]
  s48 : 3 ≤ p → ∃ (a : Option Addr) (cp : Nat), T[48]? = some (.slice a (b.length + 1) cp) ∧ Rv w (.slice a (b.length + 1) cp) (b.length + 1) ((b ++ [c]).map vB)
  s54 : 4 ≤ p → ∃ k : Nat, k ≤ b.length ∧ T[55]? = some (.slice ab k cb)
  s57 : f18 = true → p ≤ 5 → ∃ v, T[57]? = some v ∧ w.ownsRow w4.heap.size 5 1 v 1 [vB c]
  s59 : 5 ≤ p → ∃ (v : Value) (q : List UInt8), T[59]? = some v ∧ q.length ≤ 3 ∧ Rv w v q.length (q.map vB)
  s60 : 6 ≤ p → ∃ (a : Option Addr) (cp : Nat) (q : List UInt8), T[60]? = some (.slice a q.length cp) ∧ q.length ≤ 4 ∧ Rv w (.slice a q.length cp) q.length (q.map vB)

section
variable {w4 : World} {T0 : Array Value} {b : List UInt8} {c : UInt8} {ab : Option Addr} {cb : Nat} {p : Nat} {f4 f8 f18 : Bool} {T : Array Value} {w w' : World} {row : Option Nat}

/-- What a step leaves of what is known, whatever it adds at slot k. -/
theorem StD.carry (h : StD w4 T0 b c ab cb p f4 f8 f18 T w) (hg : w.grownBy w' row) (k : Nat) (v : Value) (p' : Nat) (hl : ∀ j, j ≠ k → liveD p' j → liveD p j)
    (hr : ∀ j, j ≠ k → liveD p' j → ∀ u, T[j]? = some u → row = none ∨ row ≠ u.ownBlock)
    (hv : liveD p' k → ∀ g, v.ownBlock = some g → (w.heap.size ≤ g ∧ g < w'.heap.size) ∨ row = some g) (hrw : ∀ g, row = some g → w4.heap.size ≤ g ∧ g < w.heap.size)
    (hks : k < 96) (hkk : k = 41 ∨ k = 43 ∨ k = 45 ∨ k = 47 ∨ k = 48 ∨ k = 54 ∨ k = 55 ∨ k = 57 ∨ k = 59 ∨ k = 60) :
    Below w4.heap.size w4 w' ∧ (T.setIfInBounds k v).size = 96 ∧
    (∀ j, j ≠ 41 → j ≠ 43 → j ≠ 45 → j ≠ 47 → j ≠ 48 → j ≠ 54 → j ≠ 55 → j ≠ 57 → j ≠ 59 → j ≠ 60 → (T.setIfInBounds k v)[j]? = T0[j]?) ∧
    (∀ j, liveD p' j → ∀ v' g, (T.setIfInBounds k v)[j]? = some v' → v'.ownBlock = some g → g < w'.heap.size) ∧
    (∀ i j, liveD p' i → liveD p' j → i ≠ j → ∀ v' u g, (T.setIfInBounds k v)[i]? = some v' → (T.setIfInBounds k v)[j]? = some u → v'.ownBlock = some g → u.ownBlock ≠ some g) := by
  have hsz := hg.size
  have hself : (T.setIfInBounds k v)[k]? = some v := tset_self T v (by rw [h.size]; exact hks)
  refine ⟨h.bel.grown hg h.bel.size (fun g e => (hrw g e).1), by simp [h.size], ?_, ?_, ?_⟩
  · intro j h1 h2 h3 h4 h5 h6 h7 h8 h9 h10
    rw [tset_ne T v (by rcases hkk with rfl | rfl | rfl | rfl | rfl | rfl | rfl | rfl | rfl | rfl <;> assumption)]
    exact h.keep j h1 h2 h3 h4 h5 h6 h7 h8 h9 h10
  · intro j hj v' g e1 e2
    by_cases hjk : j = k
    · subst hjk
      rw [hself] at e1
      cases e1
      rcases hv hj g e2 with h1 | h1
      · exact h1.2
      · have := (hrw g h1).2; omega
    · rw [tset_ne T v hjk] at e1
      have := h.fresh j (hl j hjk hj) v' g e1 e2
      omega
  · intro i j hi hj hij v' u g e1 e2 e3 e4
    by_cases hik : i = k
    · subst hik
      have hjk : j ≠ i := fun e => hij e.symm
      rw [hself] at e1
      cases e1
      rw [tset_ne T v hjk] at e2
      have h1 := h.fresh j (hl j hjk hj) u g e2 e4
      rcases hv hi g e3 with h2 | h2
      · omega
      · rcases hr j hjk hj u e2 with h3 | h3
        · rw [h3] at h2; cases h2
        · exact h3 (by rw [h2, e4])
    · rw [tset_ne T v hik] at e1
      by_cases hjk : j = k
      · subst hjk
        rw [hself] at e2
        cases e2
        have h1 := h.fresh i (hl i hik hi) v' g e1 e3
        rcases hv hj g e4 with h2 | h2
        · omega
        · rcases hr i hik hi v' e1 with h3 | h3
          · rw [h3] at h2; cases h2
          · exact h3 (by rw [h2, e3])
      · rw [tset_ne T v hjk] at e2
        exact h.dist i j (hl i hik hi) (hl j hjk hj) hij v' u g e1 e2 e3 e4
theorem own_blk {w : World} {base : Nat} {e : TypeId} {size : Nat} {v : Value} {n : Nat} {xs : List Value} (h : w.ownsRow base e size v n xs) : ∀ g, v.ownBlock = some g → base ≤ g ∧ g < w.heap.size := fun g hg => h.lt g hg

/-- A floating literal at slot 43. -/
theorem StD.f43 (h : StD w4 T0 b c ab cb p false f8 f18 T w)  :
    StD w4 T0 b c ab cb p true f8 f18 (T.setIfInBounds 43 (.slice (some ⟨w.heap.size, 0, none⟩) 0 0)) (w.alloc (.cells #[] 5)) := by
  have hg : w.grownBy (w.alloc (.cells #[] 5)) none := World.grownBy_alloc w _ none
  obtain ⟨c1, c2, c3, c4, c5⟩ := h.carry hg 43 (.slice (some ⟨w.heap.size, 0, none⟩) 0 0) p (fun _ _ h => h) (fun _ _ _ _ _ => .inl rfl) (fun _ g e => .inl (by simp [Value.ownBlock] at e; subst e; simp)) (fun g e => by cases e) (by omega) (by omega)
  have ne : ∀ (j : Nat) {u : Value}, j ≠ 43 → T[j]? = some u → (T.setIfInBounds 43 (.slice (some ⟨w.heap.size, 0, none⟩) 0 0))[j]? = some u := fun j u hj e => (tset_ne T _ hj).trans e
  refine ⟨c1, c2, c3, c4, c5, fun hp => ?_, fun _ _ => ?_, fun hp => ?_, fun hf hp => ?_, fun hp => ?_, fun hp => ?_, fun hf hp => ?_, fun hp => ?_, fun hp => ?_⟩
  · obtain ⟨a, cp, q, e1, e2, e3⟩ := h.s41 hp
    exact ⟨a, cp, q, ne 41 (by omega) e1, e2, e3.far hg (.inl rfl)⟩
  · exact ⟨_, tset_self T _ (by rw [h.size]; omega), own_base (own_empty w _) h.bel.size⟩
  · obtain ⟨v', e1, e2⟩ := h.s45 hp
    exact ⟨v', ne 45 (by omega) e1, own_farD e2 hg (.inl rfl)⟩
  · obtain ⟨v', e1, e2⟩ := h.s47 hf hp
    exact ⟨v', ne 47 (by omega) e1, e2.far hg (.inl rfl)⟩
  · obtain ⟨a, cp, e1, e2⟩ := h.s48 hp
    exact ⟨a, cp, ne 48 (by omega) e1, e2.far hg (.inl rfl)⟩
  · obtain ⟨k, e1, e2⟩ := h.s54 hp
    exact ⟨k, e1, ne 55 (by omega) e2⟩
  · obtain ⟨v', e1, e2⟩ := h.s57 hf hp
    exact ⟨v', ne 57 (by omega) e1, own_farD e2 hg (.inl rfl)⟩
  · obtain ⟨v', q, e1, e2, e3⟩ := h.s59 hp
    exact ⟨v', q, ne 59 (by omega) e1, e2, e3.far hg (.inl rfl)⟩
  · obtain ⟨a, cp, q, e1, e2, e3⟩ := h.s60 hp
    exact ⟨a, cp, q, ne 60 (by omega) e1, e2, e3.far hg (.inl rfl)⟩
/-- A floating literal at slot 47. -/
theorem StD.f47 (h : StD w4 T0 b c ab cb p f4 false f18 T w)  :
    StD w4 T0 b c ab cb p f4 true f18 (T.setIfInBounds 47 (.slice (some ⟨w.heap.size, 0, none⟩) 1 1)) (w.alloc (.cells #[vB c] 5)) := by
  have hg : w.grownBy (w.alloc (.cells #[vB c] 5)) none := World.grownBy_alloc w _ none
  obtain ⟨c1, c2, c3, c4, c5⟩ := h.carry hg 47 (.slice (some ⟨w.heap.size, 0, none⟩) 1 1) p (fun _ _ h => h) (fun _ _ _ _ _ => .inl rfl) (fun _ g e => .inl (by simp [Value.ownBlock] at e; subst e; simp)) (fun g e => by cases e) (by omega) (by omega)
  have ne : ∀ (j : Nat) {u : Value}, j ≠ 47 → T[j]? = some u → (T.setIfInBounds 47 (.slice (some ⟨w.heap.size, 0, none⟩) 1 1))[j]? = some u := fun j u hj e => (tset_ne T _ hj).trans e
  refine ⟨c1, c2, c3, c4, c5, fun hp => ?_, fun hf hp => ?_, fun hp => ?_, fun _ _ => ?_, fun hp => ?_, fun hp => ?_, fun hf hp => ?_, fun hp => ?_, fun hp => ?_⟩
  · obtain ⟨a, cp, q, e1, e2, e3⟩ := h.s41 hp
    exact ⟨a, cp, q, ne 41 (by omega) e1, e2, e3.far hg (.inl rfl)⟩
  · obtain ⟨v', e1, e2⟩ := h.s43 hf hp
    exact ⟨v', ne 43 (by omega) e1, own_farD e2 hg (.inl rfl)⟩
  · obtain ⟨v', e1, e2⟩ := h.s45 hp
    exact ⟨v', ne 45 (by omega) e1, own_farD e2 hg (.inl rfl)⟩
  · exact ⟨_, tset_self T _ (by rw [h.size]; omega), Rv.one w (vB c) _⟩
  · obtain ⟨a, cp, e1, e2⟩ := h.s48 hp
    exact ⟨a, cp, ne 48 (by omega) e1, e2.far hg (.inl rfl)⟩
  · obtain ⟨k, e1, e2⟩ := h.s54 hp
    exact ⟨k, e1, ne 55 (by omega) e2⟩
  · obtain ⟨v', e1, e2⟩ := h.s57 hf hp
    exact ⟨v', ne 57 (by omega) e1, own_farD e2 hg (.inl rfl)⟩
  · obtain ⟨v', q, e1, e2, e3⟩ := h.s59 hp
    exact ⟨v', q, ne 59 (by omega) e1, e2, e3.far hg (.inl rfl)⟩
  · obtain ⟨a, cp, q, e1, e2, e3⟩ := h.s60 hp
    exact ⟨a, cp, q, ne 60 (by omega) e1, e2, e3.far hg (.inl rfl)⟩
/-- A floating literal at slot 57. -/
theorem StD.f57 (h : StD w4 T0 b c ab cb p f4 f8 false T w)  :
    StD w4 T0 b c ab cb p f4 f8 true (T.setIfInBounds 57 (.slice (some ⟨w.heap.size, 0, none⟩) 1 1)) (w.alloc (.cells #[vB c] 5)) := by
  have hg : w.grownBy (w.alloc (.cells #[vB c] 5)) none := World.grownBy_alloc w _ none
  obtain ⟨c1, c2, c3, c4, c5⟩ := h.carry hg 57 (.slice (some ⟨w.heap.size, 0, none⟩) 1 1) p (fun _ _ h => h) (fun _ _ _ _ _ => .inl rfl) (fun _ g e => .inl (by simp [Value.ownBlock] at e; subst e; simp)) (fun g e => by cases e) (by omega) (by omega)
  have ne : ∀ (j : Nat) {u : Value}, j ≠ 57 → T[j]? = some u → (T.setIfInBounds 57 (.slice (some ⟨w.heap.size, 0, none⟩) 1 1))[j]? = some u := fun j u hj e => (tset_ne T _ hj).trans e
  refine ⟨c1, c2, c3, c4, c5, fun hp => ?_, fun hf hp => ?_, fun hp => ?_, fun hf hp => ?_, fun hp => ?_, fun hp => ?_, fun _ _ => ?_, fun hp => ?_, fun hp => ?_⟩
  · obtain ⟨a, cp, q, e1, e2, e3⟩ := h.s41 hp
    exact ⟨a, cp, q, ne 41 (by omega) e1, e2, e3.far hg (.inl rfl)⟩
  · obtain ⟨v', e1, e2⟩ := h.s43 hf hp
    exact ⟨v', ne 43 (by omega) e1, own_farD e2 hg (.inl rfl)⟩
  · obtain ⟨v', e1, e2⟩ := h.s45 hp
    exact ⟨v', ne 45 (by omega) e1, own_farD e2 hg (.inl rfl)⟩
  · obtain ⟨v', e1, e2⟩ := h.s47 hf hp
    exact ⟨v', ne 47 (by omega) e1, e2.far hg (.inl rfl)⟩
  · obtain ⟨a, cp, e1, e2⟩ := h.s48 hp
    exact ⟨a, cp, ne 48 (by omega) e1, e2.far hg (.inl rfl)⟩
  · obtain ⟨k, e1, e2⟩ := h.s54 hp
    exact ⟨k, e1, ne 55 (by omega) e2⟩
  · exact ⟨_, tset_self T _ (by rw [h.size]; omega), own_base (own_lit w [vB c] _ 1 1 rfl (by unfold maxLen; omega)) h.bel.size⟩
  · obtain ⟨v', q, e1, e2, e3⟩ := h.s59 hp
    exact ⟨v', q, ne 59 (by omega) e1, e2, e3.far hg (.inl rfl)⟩
  · obtain ⟨a, cp, q, e1, e2, e3⟩ := h.s60 hp
    exact ⟨a, cp, q, ne 60 (by omega) e1, e2, e3.far hg (.inl rfl)⟩
/-- The first call of Few. -/
theorem StD.c0 (h : StD w4 T0 b c ab cb 0 f4 f8 f18 T w) {a : Option Addr} {cp : Nat} {q : List UInt8} (hM : Made w w' 5 (.slice a q.length cp) (q.map vB)) (hq : q.length ≤ 40) :
    StD w4 T0 b c ab cb 1 f4 f8 f18 (T.setIfInBounds 41 (.slice a q.length cp)) w' := by
  have hg : w.grownBy w' none := ⟨hM.2.os, hM.2.tape, hM.2.output, hM.2.size, fun k hk _ => hM.2.block k hk⟩
  obtain ⟨c1, c2, c3, c4, c5⟩ := h.carry hg 41 (.slice a q.length cp) 1 (fun j hj hl => by unfold liveD at hl ⊢; omega) (fun _ _ _ _ _ => .inl rfl) (fun _ g e => .inl (own_blk hM.1 g e)) (fun g e => by cases e) (by omega) (by omega)
  have ne : ∀ (j : Nat) {u : Value}, j ≠ 41 → T[j]? = some u → (T.setIfInBounds 41 (.slice a q.length cp))[j]? = some u := fun j u hj e => (tset_ne T _ hj).trans e
  refine ⟨c1, c2, c3, c4, c5, fun _ => ?_, fun hf _ => ?_, fun hp => absurd hp (by omega), fun hf _ => ?_, fun hp => absurd hp (by omega), fun hp => absurd hp (by omega), fun hf _ => ?_, fun hp => absurd hp (by omega), fun hp => absurd hp (by omega)⟩
  · have hR := hM.rv
    rw [List.length_map] at hR
    exact ⟨a, cp, q, tset_self T _ (by rw [h.size]; omega), hq, hR⟩
  · obtain ⟨v', e1, e2⟩ := h.s43 hf (by omega)
    exact ⟨v', ne 43 (by omega) e1, own_farD e2 hg (.inl rfl)⟩
  · obtain ⟨v', e1, e2⟩ := h.s47 hf (by omega)
    exact ⟨v', ne 47 (by omega) e1, e2.far hg (.inl rfl)⟩
  · obtain ⟨v', e1, e2⟩ := h.s57 hf (by omega)
    exact ⟨v', ne 57 (by omega) e1, own_farD e2 hg (.inl rfl)⟩
/-- The append of the bytes. -/
theorem StD.c1 (h : StD w4 T0 b c ab cb 1 true f8 f18 T w) {v vd : Value} (hd : T[43]? = some vd) (hg : w.grownBy w' vd.ownBlock) (O : w'.ownsRow w4.heap.size 5 1 v b.length (b.map vB)) (hS : SameOrNew w vd v) :
    StD w4 T0 b c ab cb 2 true f8 f18 (T.setIfInBounds 45 v) w' := by
  obtain ⟨vx, hx1, hx2⟩ := h.s43 rfl (by omega)
  obtain rfl : vx = vd := by rw [hx1] at hd; exact Option.some.inj hd
  have hr : ∀ j, j ≠ 45 → liveD 2 j → ∀ u, T[j]? = some u → vx.ownBlock = none ∨ vx.ownBlock ≠ u.ownBlock := fun j _ hj u e => by
    cases hvx : vx.ownBlock with
    | none => exact .inl rfl
    | some g => exact .inr fun e2 => h.dist 43 j (by unfold liveD; omega) (by unfold liveD at hj ⊢; omega) (by unfold liveD at hj; omega) vx u g hd e hvx e2.symm
  have hvv : liveD 2 45 → ∀ g, (v : Value).ownBlock = some g → (w.heap.size ≤ g ∧ g < w'.heap.size) ∨ vx.ownBlock = some g := fun _ g e => by
    rcases hS with h1 | h1
    · exact .inr (by rw [← h1]; exact e)
    · exact .inl ⟨h1 g e, (own_blk O g e).2⟩
  obtain ⟨c1, c2, c3, c4, c5⟩ := h.carry hg 45 v 2 (fun j hj hl => by unfold liveD at hl ⊢; omega) hr hvv (own_blk hx2) (by omega) (by omega)
  have ne : ∀ (j : Nat) {u : Value}, j ≠ 45 → T[j]? = some u → (T.setIfInBounds 45 v)[j]? = some u := fun j u hj e => (tset_ne T _ hj).trans e
  refine ⟨c1, c2, c3, c4, c5, fun _ => ?_, fun _ hp => absurd hp (by omega), fun _ => ?_, fun hf _ => ?_, fun hp => absurd hp (by omega), fun hp => absurd hp (by omega), fun hf _ => ?_, fun hp => absurd hp (by omega), fun hp => absurd hp (by omega)⟩
  · obtain ⟨a, cp, q, e1, e2, e3⟩ := h.s41 (by omega)
    exact ⟨a, cp, q, ne 41 (by omega) e1, e2, e3.far hg (hr 41 (by omega) (by unfold liveD; omega) _ e1)⟩
  · exact ⟨v, tset_self T _ (by rw [h.size]; omega), O⟩
  · obtain ⟨v', e1, e2⟩ := h.s47 hf (by omega)
    exact ⟨v', ne 47 (by omega) e1, e2.far hg (hr 47 (by omega) (by unfold liveD; omega) _ e1)⟩
  · obtain ⟨v', e1, e2⟩ := h.s57 hf (by omega)
    exact ⟨v', ne 57 (by omega) e1, own_farD e2 hg (hr 57 (by omega) (by unfold liveD; omega) _ e1)⟩
/-- The append of the byte. -/
theorem StD.c2 (h : StD w4 T0 b c ab cb 2 true true f18 T w) {a : Option Addr} {cp : Nat} {vd : Value} (hd : T[45]? = some vd) (hg : w.grownBy w' vd.ownBlock) (O : w'.ownsRow w4.heap.size 5 1 (.slice a (b.length + 1) cp) (b.length + 1) ((b ++ [c]).map vB)) (hS : SameOrNew w vd (.slice a (b.length + 1) cp)) :
    StD w4 T0 b c ab cb 3 true true f18 (T.setIfInBounds 48 (.slice a (b.length + 1) cp)) w' := by
  obtain ⟨vx, hx1, hx2⟩ := h.s45 rfl
  obtain rfl : vx = vd := by rw [hx1] at hd; exact Option.some.inj hd
  have hr : ∀ j, j ≠ 48 → liveD 3 j → ∀ u, T[j]? = some u → vx.ownBlock = none ∨ vx.ownBlock ≠ u.ownBlock := fun j _ hj u e => by
    cases hvx : vx.ownBlock with
    | none => exact .inl rfl
    | some g => exact .inr fun e2 => h.dist 45 j (by unfold liveD; omega) (by unfold liveD at hj ⊢; omega) (by unfold liveD at hj; omega) vx u g hd e hvx e2.symm
  have hvv : liveD 3 48 → ∀ g, ((.slice a (b.length + 1) cp) : Value).ownBlock = some g → (w.heap.size ≤ g ∧ g < w'.heap.size) ∨ vx.ownBlock = some g := fun _ g e => by
    rcases hS with h1 | h1
    · exact .inr (by rw [← h1]; exact e)
    · exact .inl ⟨h1 g e, (own_blk O g e).2⟩
  obtain ⟨c1, c2, c3, c4, c5⟩ := h.carry hg 48 (.slice a (b.length + 1) cp) 3 (fun j hj hl => by unfold liveD at hl ⊢; omega) hr hvv (own_blk hx2) (by omega) (by omega)
  have ne : ∀ (j : Nat) {u : Value}, j ≠ 48 → T[j]? = some u → (T.setIfInBounds 48 (.slice a (b.length + 1) cp))[j]? = some u := fun j u hj e => (tset_ne T _ hj).trans e
  refine ⟨c1, c2, c3, c4, c5, fun _ => ?_, fun _ hp => absurd hp (by omega), fun hp => absurd hp (by omega), fun _ hp => absurd hp (by omega), fun _ => ?_, fun hp => absurd hp (by omega), fun hf _ => ?_, fun hp => absurd hp (by omega), fun hp => absurd hp (by omega)⟩
  · obtain ⟨a, cp, q, e1, e2, e3⟩ := h.s41 (by omega)
    exact ⟨a, cp, q, ne 41 (by omega) e1, e2, e3.far hg (hr 41 (by omega) (by unfold liveD; omega) _ e1)⟩
  · exact ⟨a, cp, tset_self T _ (by rw [h.size]; omega), Rv.of_own O⟩
  · obtain ⟨v', e1, e2⟩ := h.s57 hf (by omega)
    exact ⟨v', ne 57 (by omega) e1, own_farD e2 hg (hr 57 (by omega) (by unfold liveD; omega) _ e1)⟩
/-- The place. -/
theorem StD.c3 (h : StD w4 T0 b c ab cb p f4 f8 f18 T w) (v : Value) :
    StD w4 T0 b c ab cb p f4 f8 f18 (T.setIfInBounds 54 v) w := by
  have hg : w.grownBy w none := World.grownBy.refl w none
  obtain ⟨c1, c2, c3, c4, c5⟩ := h.carry hg 54 v p (fun _ _ h => h) (fun _ _ _ _ _ => .inl rfl) (fun hl => by unfold liveD at hl; omega) (fun g e => by cases e) (by omega) (by omega)
  have ne : ∀ (j : Nat) {u : Value}, j ≠ 54 → T[j]? = some u → (T.setIfInBounds 54 v)[j]? = some u := fun j u hj e => (tset_ne T _ hj).trans e
  refine ⟨c1, c2, c3, c4, c5, fun hp => ?_, fun hf hp => ?_, fun hp => ?_, fun hf hp => ?_, fun hp => ?_, fun hp => ?_, fun hf hp => ?_, fun hp => ?_, fun hp => ?_⟩
  · obtain ⟨a, cp, q, e1, e2, e3⟩ := h.s41 hp
    exact ⟨a, cp, q, ne 41 (by omega) e1, e2, e3.far hg (.inl rfl)⟩
  · obtain ⟨v', e1, e2⟩ := h.s43 hf hp
    exact ⟨v', ne 43 (by omega) e1, own_farD e2 hg (.inl rfl)⟩
  · obtain ⟨v', e1, e2⟩ := h.s45 hp
    exact ⟨v', ne 45 (by omega) e1, own_farD e2 hg (.inl rfl)⟩
  · obtain ⟨v', e1, e2⟩ := h.s47 hf hp
    exact ⟨v', ne 47 (by omega) e1, e2.far hg (.inl rfl)⟩
  · obtain ⟨a, cp, e1, e2⟩ := h.s48 hp
    exact ⟨a, cp, ne 48 (by omega) e1, e2.far hg (.inl rfl)⟩
  · obtain ⟨k, e1, e2⟩ := h.s54 hp
    exact ⟨k, e1, ne 55 (by omega) e2⟩
  · obtain ⟨v', e1, e2⟩ := h.s57 hf hp
    exact ⟨v', ne 57 (by omega) e1, own_farD e2 hg (.inl rfl)⟩
  · obtain ⟨v', q, e1, e2, e3⟩ := h.s59 hp
    exact ⟨v', q, ne 59 (by omega) e1, e2, e3.far hg (.inl rfl)⟩
  · obtain ⟨a, cp, q, e1, e2, e3⟩ := h.s60 hp
    exact ⟨a, cp, q, ne 60 (by omega) e1, e2, e3.far hg (.inl rfl)⟩
/-- The bytes up to the place. -/
theorem StD.c3b (h : StD w4 T0 b c ab cb 3 true true f18 T w) {k : Nat} (hk : k ≤ b.length) :
    StD w4 T0 b c ab cb 4 true true f18 (T.setIfInBounds 55 (.slice ab k cb)) w := by
  have hg : w.grownBy w none := World.grownBy.refl w none
  obtain ⟨c1, c2, c3, c4, c5⟩ := h.carry hg 55 (.slice ab k cb) 4 (fun j hj hl => by unfold liveD at hl ⊢; omega) (fun _ _ _ _ _ => .inl rfl) (fun hl => by unfold liveD at hl; omega) (fun g e => by cases e) (by omega) (by omega)
  have ne : ∀ (j : Nat) {u : Value}, j ≠ 55 → T[j]? = some u → (T.setIfInBounds 55 (.slice ab k cb))[j]? = some u := fun j u hj e => (tset_ne T _ hj).trans e
  refine ⟨c1, c2, c3, c4, c5, fun _ => ?_, fun _ hp => absurd hp (by omega), fun hp => absurd hp (by omega), fun _ hp => absurd hp (by omega), fun _ => ?_, fun _ => ?_, fun hf _ => ?_, fun hp => absurd hp (by omega), fun hp => absurd hp (by omega)⟩
  · obtain ⟨a, cp, q, e1, e2, e3⟩ := h.s41 (by omega)
    exact ⟨a, cp, q, ne 41 (by omega) e1, e2, e3.far hg (.inl rfl)⟩
  · obtain ⟨a, cp, e1, e2⟩ := h.s48 (by omega)
    exact ⟨a, cp, ne 48 (by omega) e1, e2.far hg (.inl rfl)⟩
  · exact ⟨k, hk, tset_self T _ (by rw [h.size]; omega)⟩
  · obtain ⟨v', e1, e2⟩ := h.s57 hf (by omega)
    exact ⟨v', ne 57 (by omega) e1, own_farD e2 hg (.inl rfl)⟩
/-- The second call of Few. -/
theorem StD.c4 (h : StD w4 T0 b c ab cb 4 true true f18 T w) {v : Value} {q : List UInt8} (hM : Made w w' 5 v (q.map vB)) (hq : q.length ≤ 3) :
    StD w4 T0 b c ab cb 5 true true f18 (T.setIfInBounds 59 v) w' := by
  have hg : w.grownBy w' none := ⟨hM.2.os, hM.2.tape, hM.2.output, hM.2.size, fun k hk _ => hM.2.block k hk⟩
  obtain ⟨c1, c2, c3, c4, c5⟩ := h.carry hg 59 v 5 (fun j hj hl => by unfold liveD at hl ⊢; omega) (fun _ _ _ _ _ => .inl rfl) (fun _ g e => .inl (own_blk hM.1 g e)) (fun g e => by cases e) (by omega) (by omega)
  have ne : ∀ (j : Nat) {u : Value}, j ≠ 59 → T[j]? = some u → (T.setIfInBounds 59 v)[j]? = some u := fun j u hj e => (tset_ne T _ hj).trans e
  refine ⟨c1, c2, c3, c4, c5, fun _ => ?_, fun _ hp => absurd hp (by omega), fun hp => absurd hp (by omega), fun _ hp => absurd hp (by omega), fun _ => ?_, fun _ => ?_, fun hf _ => ?_, fun _ => ?_, fun hp => absurd hp (by omega)⟩
  · obtain ⟨a, cp, q, e1, e2, e3⟩ := h.s41 (by omega)
    exact ⟨a, cp, q, ne 41 (by omega) e1, e2, e3.far hg (.inl rfl)⟩
  · obtain ⟨a, cp, e1, e2⟩ := h.s48 (by omega)
    exact ⟨a, cp, ne 48 (by omega) e1, e2.far hg (.inl rfl)⟩
  · obtain ⟨k, e1, e2⟩ := h.s54 (by omega)
    exact ⟨k, e1, ne 55 (by omega) e2⟩
  · obtain ⟨v', e1, e2⟩ := h.s57 hf (by omega)
    exact ⟨v', ne 57 (by omega) e1, own_farD e2 hg (.inl rfl)⟩
  · have hR := hM.rv
    rw [List.length_map] at hR
    exact ⟨v, q, tset_self T _ (by rw [h.size]; omega), hq, hR⟩
/-- The last append. -/
theorem StD.c5 (h : StD w4 T0 b c ab cb 5 true true true T w) {a : Option Addr} {cp : Nat} {q : List UInt8} {vd : Value} (hd : T[57]? = some vd) (hg : w.grownBy w' vd.ownBlock) (O : Rv w' (.slice a q.length cp) q.length (q.map vB)) (hq : q.length ≤ 4) :
    StD w4 T0 b c ab cb 6 true true true (T.setIfInBounds 60 (.slice a q.length cp)) w' := by
  obtain ⟨vx, hx1, hx2⟩ := h.s57 rfl (by omega)
  obtain rfl : vx = vd := by rw [hx1] at hd; exact Option.some.inj hd
  have hr : ∀ j, j ≠ 60 → liveD 6 j → ∀ u, T[j]? = some u → vx.ownBlock = none ∨ vx.ownBlock ≠ u.ownBlock := fun j _ hj u e => by
    cases hvx : vx.ownBlock with
    | none => exact .inl rfl
    | some g => exact .inr fun e2 => h.dist 57 j (by unfold liveD; omega) (by unfold liveD at hj ⊢; omega) (by unfold liveD at hj; omega) vx u g hd e hvx e2.symm
  obtain ⟨c1, c2, c3, c4, c5⟩ := h.carry hg 60 (.slice a q.length cp) 6 (fun j hj hl => by unfold liveD at hl ⊢; omega) hr (fun hl => by unfold liveD at hl; omega) (own_blk hx2) (by omega) (by omega)
  have ne : ∀ (j : Nat) {u : Value}, j ≠ 60 → T[j]? = some u → (T.setIfInBounds 60 (.slice a q.length cp))[j]? = some u := fun j u hj e => (tset_ne T _ hj).trans e
  refine ⟨c1, c2, c3, c4, c5, fun _ => ?_, fun _ hp => absurd hp (by omega), fun hp => absurd hp (by omega), fun _ hp => absurd hp (by omega), fun _ => ?_, fun _ => ?_, fun _ hp => absurd hp (by omega), fun _ => ?_, fun _ => ?_⟩
  · obtain ⟨a, cp, q, e1, e2, e3⟩ := h.s41 (by omega)
    exact ⟨a, cp, q, ne 41 (by omega) e1, e2, e3.far hg (hr 41 (by omega) (by unfold liveD; omega) _ e1)⟩
  · obtain ⟨a, cp, e1, e2⟩ := h.s48 (by omega)
    exact ⟨a, cp, ne 48 (by omega) e1, e2.far hg (hr 48 (by omega) (by unfold liveD; omega) _ e1)⟩
  · obtain ⟨k, e1, e2⟩ := h.s54 (by omega)
    exact ⟨k, e1, ne 55 (by omega) e2⟩
  · obtain ⟨v', q, e1, e2, e3⟩ := h.s59 (by omega)
    exact ⟨v', q, ne 59 (by omega) e1, e2, e3.far hg (hr 59 (by omega) (by unfold liveD; omega) _ e1)⟩
  · exact ⟨a, cp, q, tset_self T _ (by rw [h.size]; omega), hq, O⟩
end
end Go.Proofs.YtcknnlbfbjcjjaaDoor
