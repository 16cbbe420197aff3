/- A drawing region by what is known of each operation's result, in whatever order they come. Program-independent. -/
import Derived.Test.YtadhghikanjkeaaTake
namespace Go.Proofs.Ytadhghikanjkeaa
open Go.RowKit

/-- Of the operations S: the slot of each, the operation behind which its row is no longer held, those ahead of it, and what its result is. -/
structure Plan where
  S : List Nat
  d : Nat → Nat
  dead : Nat → Option Nat
  deps : Nat → List Nat
  F : Nat → Value → World → Prop
def Plan.alive (P : Plan) (l : Array Bool) (k : Nat) : Prop := ∀ i, P.dead k = some i → l.getD i false = false

structure RSt (P : Plan) (n : Nat) (l0 : Array Bool) (W0 : World) (T0 : Array Value) (l : Array Bool) (T : Array Value) (W : World) : Prop where
  lsize : l.size = n
  base : ∀ k, k ∉ P.S → l.getD k false = l0.getD k false
  size : T.size = T0.size
  keep : ∀ j, (∀ k ∈ P.S, P.d k ≠ j) → T[j]? = T0[j]?
  bel : Below W0.heap.size W0 W
  clos : ∀ k ∈ P.S, l.getD k false = true → ∀ e ∈ P.deps k, l.getD e false = true
  fact : ∀ k ∈ P.S, l.getD k false = true → ∃ v, T[P.d k]? = some v ∧ (∀ b, v.ownBlock = some b → W0.heap.size ≤ b ∧ b < W.heap.size) ∧ (P.alive l k → P.F k v W)
  sep : ∀ j ∈ P.S, ∀ k ∈ P.S, j ≠ k → l.getD j false = true → l.getD k false = true → P.dead j ≠ none → P.alive l j → P.alive l k → ∀ u v b, T[P.d j]? = some u → T[P.d k]? = some v → u.ownBlock = some b → v.ownBlock ≠ some b

theorem getD_set {l : Array Bool} {i : Nat} (hi : i < l.size) (k : Nat) : (l.setIfInBounds i true).getD k false = if k = i then true else l.getD k false := by
  by_cases h : k = i
  · subst h
    rw [if_pos rfl]
    simp [Array.getD, hi]
  · rw [if_neg h]
    simp only [Array.getD_eq_getD_getElem?]
    rw [Array.getElem?_setIfInBounds_ne (fun e => h e.symm)]
theorem tset_ne (T : Array Value) {k j : Nat} (v : Value) (h : j ≠ k) : (T.setIfInBounds k v)[j]? = T[j]? := by
  rw [Array.getElem?_setIfInBounds_ne (fun e => h e.symm)]
theorem tset_self (T : Array Value) {k : Nat} (v : Value) (h : k < T.size) : (T.setIfInBounds k v)[k]? = some v := by
  rw [Array.getElem?_setIfInBounds_self_of_lt h]
theorem grownOf {W W' : World} (h : Below W.heap.size W W') : W.grownBy W' none := ⟨h.os, h.tape, h.output, h.size, fun k hk _ => h.block k hk⟩

section
variable {P : Plan} {n : Nat} {l0 : Array Bool} {W0 : World} {T0 : Array Value} {l : Array Bool} {T : Array Value} {W W' : World} {i : Nat} {v : Value} {g : Option Nat}
theorem RSt.step (h : RSt P n l0 W0 T0 l T W) (hF : ∀ k v W W' g, P.F k v W → W.grownBy W' g → (∀ b, g = some b → v.ownBlock ≠ some b) → P.F k v W') (hinj : ∀ j ∈ P.S, ∀ k ∈ P.S, P.d j = P.d k → j = k)
    (hi : i ∈ P.S) (hin : i < n) (hlf : l.getD i false = false) (hlt : P.d i < T0.size) (hdep : ∀ e ∈ P.deps i, l.getD e false = true) (hself : P.dead i ≠ some i) (hg : W.grownBy W' g)
    (hrow : ∀ b, g = some b → ∃ j ∈ P.S, P.dead j = some i ∧ l.getD j false = true ∧ P.alive l j ∧ ∃ u, T[P.d j]? = some u ∧ u.ownBlock = some b)
    (hv : ∀ b, v.ownBlock = some b → b < W'.heap.size ∧ (W.heap.size ≤ b ∨ g = some b)) (hFv : P.F i v W') :
    RSt P n l0 W0 T0 (l.setIfInBounds i true) (T.setIfInBounds (P.d i) v) W' := by
  have hl : i < l.size := by rw [h.lsize]; exact hin
  have hT : P.d i < T.size := by rw [h.size]; exact hlt
  have hmono : ∀ k, l.getD k false = true → (l.setIfInBounds i true).getD k false = true := fun k hk => by
    rw [getD_set hl]; split <;> first | rfl | exact hk
  have hback : ∀ k, k ≠ i → (l.setIfInBounds i true).getD k false = true → l.getD k false = true := fun k hk h2 => by
    rw [getD_set hl, if_neg hk] at h2; exact h2
  have halive : ∀ k, P.alive (l.setIfInBounds i true) k → P.alive l k ∧ P.dead k ≠ some i := fun k hk => by
    refine ⟨fun e he => ?_, fun e => ?_⟩
    · have := hk e he
      rw [getD_set hl] at this
      split at this
      · cases this
      · exact this
    · have := hk i e
      rw [getD_set hl, if_pos rfl] at this
      cases this
  have hbase : ∀ b, g = some b → W0.heap.size ≤ b := fun b hb => by
    obtain ⟨j, hj, _, hlj, _, u, hu, hub⟩ := hrow b hb
    obtain ⟨u', hu', h2, _⟩ := h.fact j hj hlj
    rw [hu] at hu'
    cases hu'
    exact (h2 b hub).1
  -- what is alive behind i lies off the row that grows
  have havoid : ∀ k ∈ P.S, k ≠ i → l.getD k false = true → P.alive (l.setIfInBounds i true) k → ∀ u, T[P.d k]? = some u → ∀ b, g = some b → u.ownBlock ≠ some b := fun k hk hki hlk hal u hu b hb => by
    obtain ⟨ha, hd⟩ := halive k hal
    obtain ⟨j, hj, hdj, hlj, haj, u', hu', hub⟩ := hrow b hb
    exact h.sep j hj k hk (fun e => hd (by rw [← e]; exact hdj)) hlj hlk (by rw [hdj]; simp) haj ha u' u b hu' hu hub
  have hother : ∀ k ∈ P.S, k ≠ i → (T.setIfInBounds (P.d i) v)[P.d k]? = T[P.d k]? := fun k hk hki => tset_ne T v (fun e => hki (hinj k hk i hi e))
  have hlow : ∀ k ∈ P.S, l.getD k false = true → ∀ u, T[P.d k]? = some u → ∀ b, u.ownBlock = some b → W0.heap.size ≤ b ∧ b < W.heap.size := fun k hk hlk u hu b hb => by
    obtain ⟨u', hu', h2, _⟩ := h.fact k hk hlk
    rw [hu] at hu'
    cases hu'
    exact h2 b hb
  refine ⟨by rw [Array.size_setIfInBounds]; exact h.lsize, fun k hk => ?_, by rw [Array.size_setIfInBounds]; exact h.size, fun j hj => ?_, h.bel.grown hg h.bel.size hbase, fun k hk hlk e he => ?_, fun k hk hlk => ?_, ?_⟩
  · rw [getD_set hl, if_neg (fun e => hk (by rw [e]; exact hi))]
    exact h.base k hk
  · rw [tset_ne T v (fun e => hj i hi e.symm)]
    exact h.keep j hj
  · by_cases hki : k = i
    · subst hki; exact hmono e (hdep e he)
    · exact hmono e (h.clos k hk (hback k hki hlk) e he)
  · by_cases hki : k = i
    · subst hki
      refine ⟨v, tset_self T v hT, fun b hb => ?_, fun _ => hFv⟩
      obtain ⟨h1, h2⟩ := hv b hb
      refine ⟨?_, h1⟩
      rcases h2 with h2 | h2
      · exact Nat.le_trans h.bel.size h2
      · exact hbase b h2
    · obtain ⟨u, hu, h2, h3⟩ := h.fact k hk (hback k hki hlk)
      refine ⟨u, (hother k hk hki).trans hu, fun b hb => ⟨(h2 b hb).1, Nat.lt_of_lt_of_le (h2 b hb).2 hg.size⟩, fun ha => hF k u W W' g (h3 (halive k ha).1) hg (havoid k hk hki (hback k hki hlk) ha u hu)⟩
  · intro j hj k hk hjk hlj hlk hdj haj hak u w b hu hw hub hwb
    by_cases hji : j = i
    · subst hji
      have hki : k ≠ j := fun e => hjk e.symm
      rw [tset_self T v hT] at hu
      cases hu
      rw [hother k hk hki] at hw
      rcases (hv b hub).2 with h2 | h2
      · have := (hlow k hk (hback k hki hlk) w hw b hwb).2; omega
      · exact havoid k hk hki (hback k hki hlk) hak w hw b h2 hwb
    · rw [hother j hj hji] at hu
      by_cases hki : k = i
      · subst hki
        rw [tset_self T v hT] at hw
        cases hw
        rcases (hv b hwb).2 with h2 | h2
        · have := (hlow j hj (hback j hji hlj) u hu b hub).2; omega
        · exact havoid j hj hji (hback j hji hlj) haj u hu b h2 hub
      · rw [hother k hk hki] at hw
        exact h.sep j hj k hk hjk (hback j hji hlj) (hback k hki hlk) hdj (halive j haj).1 (halive k hak).1 u w b hu hw hub hwb
end

theorem count_fn {S : List Nat} {f g : Nat → Bool} {i : Nat} (hg : ∀ k, g k = if k = i then true else f k) (hS : i ∈ S) (hn : S.Nodup) (hf : f i = false) :
    (S.filter fun k => !f k).length = (S.filter fun k => !g k).length + 1 := by
  induction S with
  | nil => cases hS
  | cons a S ih =>
    have hnd := List.nodup_cons.1 hn
    by_cases ha : a = i
    · subst ha
      have e : (S.filter fun k => !f k) = S.filter fun k => !g k := List.filter_congr fun k hk => by
        have hka : k ≠ a := fun e => hnd.1 (by rw [← e]; exact hk)
        rw [hg, if_neg hka]
      rw [List.filter_cons, List.filter_cons, hf, hg, if_pos rfl, e]
      rfl
    · have hS2 : i ∈ S := by
        rcases List.mem_cons.1 hS with h | h
        · exact absurd h.symm ha
        · exact h
      have := ih hS2 hnd.2
      rw [List.filter_cons, List.filter_cons, hg a, if_neg ha]
      cases f a
      · simp only [Bool.not_false, if_true, List.length_cons]; omega
      · simpa using this
theorem count_set {S : List Nat} {l : Array Bool} {i : Nat} (hi : i < l.size) (hS : i ∈ S) (hn : S.Nodup) (hf : l.getD i false = false) :
    (S.filter fun k => !l.getD k false).length = (S.filter fun k => !(l.setIfInBounds i true).getD k false).length + 1 := count_fn (f := fun k => l.getD k false) (g := fun k => (l.setIfInBounds i true).getD k false) (getD_set hi) hS hn hf

/-- The region, where what is known is kept by each of the operations S that may come up next; what is left when they are through is one state. -/
theorem wpAny_plan {Pr : Program} {md : Region.Mode} {ops : Array Oper} {Q : Exit → Act → World → Prop} {ds : List Deferred} (P : Plan) {n : Nat} {l0 lf : Array Bool} {W0 : World} {T0 : Array Value} (ff : Nat)
    (hn : ops.size = n) (hnd : P.S.Nodup) (hSn : ∀ i ∈ P.S, i < n)
    (acyc' : (List.range n).all (fun i => (ops[i]?).all fun o => o.after.all fun e => decide (e.on < i)) = true)
    (out' : (List.range n).all (fun i => P.S.contains i || l0.getD i false || (ops[i]?).all fun o => (o.after.any fun e => Region.binds md e && !P.S.contains e.on && !l0.getD e.on false) || P.S.all fun k => o.after.any fun e => Region.binds md e && (e.on == k || (P.S.contains e.on && (P.deps e.on).contains k))) = true)
    (hlf : lf.size = n) (hlf3 : (List.range n).all (fun k => lf.getD k false == (P.S.contains k || l0.getD k false)) = true) (hrest' : (List.range n).any (fun i => !P.S.contains i && !l0.getD i false) = true)
    (step : ∀ l T W i (o : Oper), RSt P n l0 W0 T0 l T W → i ∈ P.S → ops[i]? = some o → l.getD i false = false → (o.after.all fun e => !Region.binds md e || l.getD e.on false) = true →
      ∀ K : Act → World → Prop, (∀ T' W', RSt P n l0 W0 T0 (l.setIfInBounds i true) T' W' → K ⟨T', ds⟩ W') → if Region.wanted o (yielded ops T) = true then Oper.wp Pr o ⟨T, ds⟩ W K Q else K (Act.put ⟨T, ds⟩ o.dst undef) W)
    (fin : ∀ T W, RSt P n l0 W0 T0 lf T W → wpAny Pr md ops Q ff lf ⟨T, ds⟩ W) :
    ∀ m l T W, (P.S.filter fun k => !l.getD k false).length = m → RSt P n l0 W0 T0 l T W → wpAny Pr md ops Q (ff + m) l ⟨T, ds⟩ W := by
  have acyc : ∀ i (o : Oper), i < n → ops[i]? = some o → (o.after.all fun e => decide (e.on < i)) = true := fun i o hi ho => by
    have := List.all_eq_true.1 acyc' i (List.mem_range.2 hi)
    rw [ho] at this
    exact this
  have hlf2 : ∀ k, k < n → lf.getD k false = if k ∈ P.S then true else l0.getD k false := fun k hk => by
    have := List.all_eq_true.1 hlf3 k (List.mem_range.2 hk)
    rw [beq_iff_eq] at this
    rw [this]
    by_cases hs : k ∈ P.S
    · rw [if_pos hs, List.contains_iff_mem.2 hs, Bool.true_or]
    · rw [if_neg hs, show P.S.contains k = false by simpa using hs, Bool.false_or]
  have hrest : ∃ i, i < n ∧ i ∉ P.S ∧ l0.getD i false = false := by
    obtain ⟨i, hi, h⟩ := List.any_eq_true.1 hrest'
    rw [Bool.and_eq_true, Bool.not_eq_true', Bool.not_eq_true'] at h
    exact ⟨i, List.mem_range.1 hi, by simpa using h.1, h.2⟩
  have out : ∀ i (o : Oper), i < n → ops[i]? = some o → i ∉ P.S → l0.getD i false = false → (∃ e ∈ o.after.toList, Region.binds md e = true ∧ e.on ∉ P.S ∧ l0.getD e.on false = false) ∨ ∀ k ∈ P.S, ∃ e ∈ o.after.toList, Region.binds md e = true ∧ (e.on = k ∨ (e.on ∈ P.S ∧ k ∈ P.deps e.on)) := fun i o hi ho hS hl => by
    have := List.all_eq_true.1 out' i (List.mem_range.2 hi)
    rw [ho, hl, show P.S.contains i = false by simpa using hS, Bool.or_false, Bool.false_or] at this
    simp only [Option.all_some] at this
    rcases Bool.or_eq_true _ _ ▸ this with h | h
    · left
      rw [← Array.any_toList, List.any_eq_true] at h
      obtain ⟨e, he, h⟩ := h
      simp only [Bool.and_eq_true, Bool.not_eq_true'] at h
      exact ⟨e, he, h.1.1, by simpa using h.1.2, h.2⟩
    · right
      intro k hk
      have h2 := List.all_eq_true.1 h k hk
      rw [← Array.any_toList, List.any_eq_true] at h2
      obtain ⟨e, he, h2⟩ := h2
      simp only [Bool.and_eq_true, Bool.or_eq_true, beq_iff_eq] at h2
      refine ⟨e, he, h2.1, ?_⟩
      rcases h2.2 with h3 | h3
      · exact .inl h3
      · exact .inr ⟨by simpa using h3.1, by simpa using h3.2⟩
  intro m
  induction m with
  | zero =>
    intro l T W hm h
    have hall : ∀ k ∈ P.S, l.getD k false = true := fun k hk => by
      cases hx : l.getD k false with
      | true => rfl
      | false =>
        have hmem : k ∈ P.S.filter fun k => !l.getD k false := List.mem_filter.2 ⟨hk, by simp only [hx, Bool.not_false]⟩
        rw [List.eq_nil_of_length_eq_zero hm] at hmem
        cases hmem
    have e : l = lf := by
      apply Array.ext
      · rw [h.lsize, hlf]
      · intro k h1 h2
        have hk : k < n := by rw [← h.lsize]; exact h1
        have e1 := hlf2 k hk
        have e2 : l.getD k false = if k ∈ P.S then true else l0.getD k false := by
          by_cases hs : k ∈ P.S
          · rw [if_pos hs]; exact hall k hs
          · rw [if_neg hs]; exact h.base k hs
        rw [← e1] at e2
        simpa [Array.getD, h1, h2] using e2
    rw [e] at h ⊢
    exact fin T W h
  | succ m ih =>
    intro l T W hm h
    have hsome : ∃ k ∈ P.S, l.getD k false = false := by
      cases hfl : P.S.filter fun k => !l.getD k false with
      | nil => rw [hfl] at hm; cases hm
      | cons k t =>
        have hk : k ∈ P.S.filter fun k => !l.getD k false := by rw [hfl]; simp
        have := List.mem_filter.1 hk
        exact ⟨k, this.1, by simpa using this.2⟩
    have hD : ∀ k, k < n → l.getD k true = l.getD k false := fun k hk => by simp [Array.getD, h.lsize, hk]
    refine ⟨fun hr => ?_, fun i hi => ?_⟩
    · exfalso
      have hall : ∀ k, k < n → l.getD k false = true := by
        intro k
        induction k using Nat.strongRecOn with
        | ind k ihk =>
          intro hk
          cases hx : l.getD k false with
          | true => rfl
          | false =>
            have hmem : k ∈ Region.ready md ops l := by
              refine List.mem_filter.2 ⟨List.mem_range.2 (by rw [hn]; exact hk), ?_⟩
              have hk2 : k < ops.size := by rw [hn]; exact hk
              rw [hD k hk, hx, Array.getElem?_eq_getElem hk2]
              simp only [Bool.not_false, Bool.true_and, Option.map_some, Option.getD_some]
              have := acyc k _ hk (Array.getElem?_eq_getElem hk2)
              rw [Array.all_eq_true] at this ⊢
              intro j hj
              have hlt := this j hj
              simp only [decide_eq_true_eq] at hlt
              rw [ihk _ hlt (Nat.lt_trans hlt hk), Bool.or_true]
            rw [hr] at hmem
            cases hmem
      obtain ⟨k, hk, hkf⟩ := hsome
      rw [hall k (hSn k hk)] at hkf
      cases hkf
    · have hi' := List.mem_filter.1 hi
      have hin : i < ops.size := List.mem_range.1 hi'.1
      have ho := Array.getElem?_eq_getElem hin
      have hcond := hi'.2
      rw [ho] at hcond
      simp only [Option.map_some, Option.getD_some, Bool.and_eq_true] at hcond
      have hlf : l.getD i false = false := by rw [← hD i (by rw [← hn]; exact hin)]; simpa using hcond.1
      by_cases hS : i ∈ P.S
      · refine wpOp_step ho (fun K hK => ?_)
        have hil : i < l.size := by rw [h.lsize, ← hn]; exact hin
        have hc := count_set hil hS hnd hlf
        refine step l T W i _ h hS ho hlf hcond.2 K (fun T' W' h' => hK _ _ (ih _ _ _ ?_ h'))
        omega
      · exfalso
        obtain ⟨k, hk, hkf⟩ := hsome
        have hl0 : l0.getD i false = false := by
          rw [← h.base i hS]
          exact hlf
        have hall := hcond.2
        rw [← Array.all_toList, List.all_eq_true] at hall
        rcases out i _ (by rw [← hn]; exact hin) ho hS hl0 with ⟨e, he, hb, h2, h3⟩ | hx
        · have hle := hall e he
          rw [hb, Bool.not_true, Bool.false_or, h.base _ h2, h3] at hle
          cases hle
        · obtain ⟨e, he, hb, h2⟩ := hx k hk
          have hle := hall e he
          rw [hb, Bool.not_true, Bool.false_or] at hle
          rcases h2 with rfl | ⟨h3, h4⟩
          · rw [hle] at hkf; cases hkf
          · rw [h.clos _ h3 hle k h4] at hkf; cases hkf

/-- The frame, with the plan's slots as they are. -/
theorem frame_fold {T : Array Value} (d : Nat → Nat) : ∀ (S : List Nat) (T0 : Array Value), T.size = T0.size → (∀ k ∈ S, d k < T.size) → (∀ j, (∀ k ∈ S, d k ≠ j) → T[j]? = T0[j]?) → T = S.foldl (fun A k => A.setIfInBounds (d k) (T[d k]?.getD undef)) T0
  | [], T0, _, _, h => Array.ext_getElem? fun j => h j (fun _ hk => by cases hk)
  | a :: S, T0, hsz, hlt, h => by
    refine frame_fold d S (T0.setIfInBounds (d a) (T[d a]?.getD undef)) (by rw [Array.size_setIfInBounds]; exact hsz) (fun k hk => hlt k (by simp [hk])) (fun j hj => ?_)
    by_cases hja : j = d a
    · subst hja
      have hl := hlt a (by simp)
      rw [tset_self T0 _ (by rw [← hsz]; exact hl), Array.getElem?_eq_getElem hl]
      rfl
    · rw [tset_ne T0 _ hja]
      refine h j (fun k hk => ?_)
      rcases List.mem_cons.1 hk with rfl | hk
      · exact fun e => hja e.symm
      · exact hj k hk
theorem RSt.start (P : Plan) {n : Nat} {l0 : Array Bool} (W0 : World) (T0 : Array Value) (hn : l0.size = n) (hS : P.S.all (fun k => !l0.getD k false) = true) : RSt P n l0 W0 T0 l0 T0 W0 := by
  have hf : ∀ k ∈ P.S, l0.getD k false = false := fun k hk => by simpa using List.all_eq_true.1 hS k hk
  exact ⟨hn, fun _ _ => rfl, rfl, fun _ _ => rfl, Below.refl _ _, (fun k hk h => by rw [hf k hk] at h; cases h), (fun k hk h => by rw [hf k hk] at h; cases h), (fun j hj _ _ _ h => by rw [hf j hj] at h; cases h)⟩
theorem wpAny_letter {P : Program} {md : Region.Mode} {ops : Array Oper} {Q : Exit → Act → World → Prop} {f : Nat} {l : Array Bool} {T0 : Array Value} {ds : List Deferred} {w : World} (h : ∀ T, T = T0 → wpAny P md ops Q f l ⟨T, ds⟩ w) : wpAny P md ops Q f l ⟨T0, ds⟩ w := h T0 rfl
theorem after_of {md : Region.Mode} {o : Oper} {l : Array Bool} (h : (o.after.all fun e => !Region.binds md e || l.getD e.on false) = true) (k : Nat) (hk : (o.after.any fun e => Region.binds md e && e.on == k) = true) : l.getD k false = true := by
  rw [← Array.any_toList, List.any_eq_true] at hk
  obtain ⟨e, he, h2⟩ := hk
  rw [Bool.and_eq_true, beq_iff_eq] at h2
  rw [← Array.all_toList, List.all_eq_true] at h
  have h3 := h e he
  rw [h2.1, Bool.not_true, Bool.false_or, h2.2] at h3
  exact h3
end Go.Proofs.Ytadhghikanjkeaa
