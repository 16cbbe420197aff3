/- The law PoolSame, plain: what its pool is, and that twelve rounds answer all tasks. -/
import Derived.Test.YtfdacckkdjpjhaaPlU
import Derived.Test.YtfdacckkdjpjhaaPmC
namespace Go.Proofs.Ytfdacckkdjpjhaa
open Go.RowKit

/-- The law's pool: a task of number 3i for each body, and no answer but the body's own. -/
structure SamI (res : List UInt8 → List UInt8) (bs : List (List UInt8)) (D : Pl) : Prop where
  ids : D.ids = (List.range bs.length).map (fun i : Nat => 3 * (i : Int))
  bod : ∀ (i : Nat) b, bs[i]? = some b → ∃ e, D.ts (3 * (i : Int)) = some e ∧ e.body = b
  ans : ∀ k e, D.ts k = some e → e.done = true → e.ans.task = k ∧ e.ans.body = res e.body
  tmo : D.timeout ≤ 6
/-- An answer of the law's. -/
def LateOk (res : List UInt8 → List UInt8) (bs : List (List UInt8)) (r : Rep) : Prop := ∃ (i : Nat) (b : List UInt8), bs[i]? = some b ∧ r.task = 3 * (i : Int) ∧ r.body = res b
section
variable {res : List UInt8 → List UInt8} {bs : List (List UInt8)} {D D' : Pl} {k : Int} {e e' : En}
theorem SamI.new (n : Nat) (t : Int) (ht : t ≤ 6) : SamI res [] (newPl n t) := ⟨rfl, (fun _ _ h => by simp at h), (fun _ _ h => by cases h), ht⟩
theorem SamI.key (h : SamI res bs D) (ok : POk D) (he : D.ts k = some e) : ∃ (i : Nat) (b : List UInt8), k = 3 * (i : Int) ∧ bs[i]? = some b ∧ e.body = b := by
  have hm := (ok.mem k).2 ⟨e, he⟩
  rw [h.ids, List.mem_map] at hm
  obtain ⟨i, hi, rfl⟩ := hm
  have hi := List.mem_range.1 hi
  obtain ⟨f, hf, hb⟩ := h.bod i _ (List.getElem?_eq_getElem hi)
  rw [he] at hf
  cases hf
  exact ⟨i, _, rfl, List.getElem?_eq_getElem hi, hb⟩
theorem SamI.add (h : SamI res bs D) (ok : POk D) (b : List UInt8) (hb : b.length ≤ 65536) (hl : bs.length < 1000) : (D.add (3 * (bs.length : Int)) b).1 = 0 ∧ SamI res (bs ++ [b]) (D.add (3 * (bs.length : Int)) b).2 := by
  have hn : D.ts (3 * (bs.length : Int)) = none := by
    cases hts : D.ts (3 * (bs.length : Int)) with
    | none => rfl
    | some e =>
      obtain ⟨i, c, h1, h2, _⟩ := h.key ok hts
      have := (List.getElem?_eq_some_iff.1 h2).1
      omega
  have hil : D.ids.length = bs.length := by rw [h.ids, List.length_map, List.length_range]
  unfold Pl.add
  rw [if_neg (by omega), if_neg (by omega), hn]
  refine ⟨rfl, ?_, fun i c hc => ?_, fun k e he hd => ?_, h.tmo⟩
  · show insI _ D.ids = _
    rw [insI_at _ D.ids D.ids.length (Nat.le_refl _) (fun j y hj hy => ?_) (fun y hy => by rw [List.getElem?_eq_none (Nat.le_refl _)] at hy; cases hy), List.take_length, List.drop_length, h.ids, List.length_append, List.length_singleton, List.range_succ, List.map_append]
    · rfl
    · rw [h.ids, List.getElem?_map, List.getElem?_range (by omega)] at hy
      have hy : some (3 * (j : Int)) = some y := hy
      cases hy
      omega
  · show ∃ e, (if _ = _ then some (freshE b) else D.ts _) = some e ∧ _
    by_cases q : i < bs.length
    · rw [List.getElem?_append_left q] at hc
      rw [if_neg (by omega)]
      exact h.bod i c hc
    · rw [List.getElem?_append_right (by omega)] at hc
      have h0 := (List.getElem?_eq_some_iff.1 hc).1
      rw [List.length_singleton] at h0
      have hi : i = bs.length := by omega
      subst hi
      rw [Nat.sub_self] at hc
      cases hc
      rw [if_pos rfl]
      exact ⟨_, rfl, rfl⟩
  · change (if _ = _ then some (freshE b) else D.ts k) = some e at he
    split at he
    · cases he; cases hd
    · exact h.ans k e he hd
/-- Tasks are as they were but for their tries, and answers. -/
theorem SamI.turn (h : SamI res bs D) (hi : D'.ids = D.ids) (ht : D'.timeout = D.timeout) (hts : ∀ j f, D'.ts j = some f → ∃ e, D.ts j = some e ∧ f.body = e.body ∧ (f.done = true → f.ans.task = j ∧ f.ans.body = res f.body)) (hex : ∀ j e, D.ts j = some e → ∃ f, D'.ts j = some f) : SamI res bs D' :=
  ⟨hi.trans h.ids, fun i b hb => by
    obtain ⟨e, he, heb⟩ := h.bod i b hb
    obtain ⟨f, hf⟩ := hex _ _ he
    obtain ⟨e2, he2, h2, _⟩ := hts _ _ hf
    rw [he] at he2
    cases he2
    exact ⟨f, hf, h2.trans heb⟩, fun k f hf hd => by
    obtain ⟨_, _, _, h3⟩ := hts k f hf
    exact h3 hd, by rw [ht]; exact h.tmo⟩
theorem SamI.same (h : SamI res bs D) (hi : D'.ids = D.ids) (ht : D'.timeout = D.timeout) (hts : D'.ts = D.ts) : SamI res bs D' :=
  h.turn hi ht (fun j f hf => by rw [hts] at hf; exact ⟨f, hf, rfl, h.ans j f hf⟩) (fun j e he => ⟨e, by rw [hts]; exact he⟩)
/-- One task turned. -/
theorem SamI.one (h : SamI res bs D) (hi : D'.ids = D.ids) (ht : D'.timeout = D.timeout) (he : D.ts k = some e) (hts : ∀ j, D'.ts j = if j = k then some e' else D.ts j) (hb : e'.body = e.body) (ha : e'.done = true → e'.ans.task = k ∧ e'.ans.body = res e'.body) : SamI res bs D' :=
  h.turn hi ht (fun j f hf => by
    rw [hts] at hf
    split at hf
    · rename_i q
      subst q
      cases hf
      exact ⟨e, he, hb, ha⟩
    · exact ⟨f, hf, rfl, h.ans j f hf⟩) (fun j f hf => by
    rw [hts]
    split
    · exact ⟨_, rfl⟩
    · exact ⟨f, hf⟩)
theorem SamI.ask (h : SamI res bs D) (x t : Int) : SamI res bs (D.ask x t).2 := by
  unfold Pl.ask
  split
  · exact h
  · split
    · exact h
    · split
      · exact h
      · split
        · exact h
        · split
          · exact h.same rfl rfl rfl
          · rename_i k e hp
            obtain ⟨_, hts, hd, _⟩ := pickIn_some hp
            exact h.one (k := k) (e := e) (e' := _) rfl rfl hts (fun _ => rfl) rfl (fun q => by rw [show _ = e.done from rfl, hd] at q; cases q)
theorem SamI.asked (h : SamI res bs D) (ok : POk D) (x t : Int) (hs : (D.ask x t).1.is = true) : ∃ (i : Nat) (b : List UInt8), (D.ask x t).1.id = 3 * (i : Int) ∧ bs[i]? = some b ∧ (D.ask x t).1.body = b := by
  obtain ⟨O, hO⟩ : ∃ O, D.ask x t = O := ⟨_, rfl⟩
  rw [hO] at hs ⊢
  unfold Pl.ask at hO
  split at hO
  · subst hO; cases hs
  · split at hO
    · subst hO; cases hs
    · split at hO
      · subst hO; cases hs
      · split at hO
        · subst hO; cases hs
        · split at hO
          · subst hO; cases hs
          · rename_i k e hp
            obtain ⟨_, hts, _, _⟩ := pickIn_some hp
            subst hO
            obtain ⟨i, b, h1, h2, h3⟩ := h.key ok hts
            exact ⟨i, b, h1, h2, h3⟩
theorem SamI.answer (h : SamI res bs D) {task worker tr : Int} {b : List UInt8} {t : Int} (hl : LateOk res bs ⟨task, worker, tr, b⟩) : SamI res bs (D.answer task worker tr b t).2.2 := by
  unfold Pl.answer
  split
  · exact h
  · split
    · exact h
    · rename_i e he
      split
      · exact h
      · split
        · exact h
        · split
          · exact h.same rfl rfl rfl
          · refine h.one (k := task) (e := e) (e' := _) rfl rfl he (fun _ => rfl) rfl (fun _ => ⟨rfl, ?_⟩)
            obtain ⟨i, c, h1, h2, h3⟩ := hl
            obtain ⟨f, hf, hfb⟩ := h.bod i c h1
            have h2 : task = 3 * (i : Int) := h2
            rw [← h2, he] at hf
            cases hf
            show b = res e.body
            rw [hfb]
            exact h3
theorem SamI.die (h : SamI res bs D) (x t : Int) : SamI res bs (D.die x t).2 := by
  unfold Pl.die
  split
  · exact h
  · split
    · exact h
    · split
      · exact h
      · rename_i v _ _
        rw [lose_eq]
        refine h.turn rfl rfl (fun j f hf => ?_) (fun j e he => ?_)
        · change (D.ts j).map _ = some f at hf
          cases hts : D.ts j with
          | none => rw [hts] at hf; cases hf
          | some e =>
            rw [hts] at hf
            cases hf
            exact ⟨e, rfl, rfl, fun hd => h.ans j e hts hd⟩
        · show ∃ f, (D.ts j).map _ = some f
          rw [he]
          exact ⟨_, rfl⟩
theorem SamI.revive (h : SamI res bs D) (x : Int) : SamI res bs (D.revive x).2 := by
  unfold Pl.revive
  split
  · exact h
  · split
    · exact h
    · split
      · exact h.same rfl rfl rfl
      · exact h
end
/-- The tick is not ahead of t. -/
theorem tick_ask {D : Pl} {x t T : Int} (h : D.tick ≤ T) (ht : t ≤ T) : (D.ask x t).2.tick ≤ T := by
  unfold Pl.ask
  split
  · exact h
  · split
    · exact h
    · split
      · exact h
      · split
        · exact h
        · split <;> exact ht
theorem tick_answer {D : Pl} {task worker tr t T : Int} {b : List UInt8} (h : D.tick ≤ T) (ht : t ≤ T) : (D.answer task worker tr b t).2.2.tick ≤ T := by
  unfold Pl.answer
  split
  · exact h
  · split
    · exact h
    · split
      · exact h
      · split
        · exact h
        · split <;> exact ht
theorem tick_die {D : Pl} {x t T : Int} (h : D.tick ≤ T) (ht : t ≤ T) : (D.die x t).2.tick ≤ T := by
  unfold Pl.die
  split
  · exact h
  · split
    · exact h
    · split
      · exact h
      · exact ht
theorem tick_revive {D : Pl} {x T : Int} (h : D.tick ≤ T) : (D.revive x).2.tick ≤ T := by
  unfold Pl.revive
  split
  · exact h
  · split
    · exact h
    · split <;> exact h
/-- Worker 0 lives. -/
def Liv (D : Pl) : Prop := ∃ v, D.ws[0]? = some v ∧ v.dead = false
theorem liv_revive {D : Pl} (ok : POk D) : Liv (D.revive 0).2 := by
  have hl := ok.wsl
  have hv : D.ws[0]? = some D.ws[0] := List.getElem?_eq_getElem (by omega)
  unfold Pl.revive
  have hno : D.no 0 = false := decide_eq_false (by omega)
  rw [hno, if_neg (by simp)]
  rw [show ((0 : Int).toNat) = 0 from rfl, hv]
  simp only
  split
  · exact ⟨_, by show (D.ws.set 0 _)[0]? = _; rw [List.getElem?_set_self (by omega)], rfl⟩
  · rename_i h
    exact ⟨_, hv, by simpa using h⟩
theorem liv_answer {D : Pl} (h : Liv D) (task worker tr : Int) (b : List UInt8) (t : Int) : Liv (D.answer task worker tr b t).2.2 := by
  unfold Pl.answer
  split
  · exact h
  · split
    · exact h
    · split
      · exact h
      · split
        · exact h
        · split <;> exact h
theorem liv_ask {D : Pl} (h : Liv D) (x t : Int) : Liv (D.ask x t).2 := by
  obtain ⟨v0, hv0, hd0⟩ := h
  unfold Pl.ask
  split
  · exact ⟨v0, hv0, hd0⟩
  · split
    · exact ⟨v0, hv0, hd0⟩
    · rename_i v hv
      split
      · exact ⟨v0, hv0, hd0⟩
      · rename_i hd
        split
        · exact ⟨v0, hv0, hd0⟩
        · split
          · exact ⟨v0, hv0, hd0⟩
          · rename_i k e hp
            show ∃ u, (D.ws.set x.toNat ⟨v.dead, true, k⟩)[0]? = some u ∧ _
            by_cases q : x.toNat = 0
            · rw [q, List.getElem?_set_self (List.getElem?_eq_some_iff.1 hv0).1]
              exact ⟨_, rfl, by simpa using hd⟩
            · rw [List.getElem?_set_ne q]
              exact ⟨v0, hv0, hd0⟩
/-- A round: nothing runs at a tick that is far enough, so worker 0 is given an open task, if there is one. -/
theorem round_ask {D : Pl} (ok : POk D) (hl : Liv D) (hm : D.timeout ≤ 6) {t : Int} (ht : D.tick + 7 ≤ t) (htm : t ≤ 1099511627776) :
    (D.ask 0 t).1.err = 0 ∧ (((D.ask 0 t).1.is = false ∧ opn (D.ask 0 t).2 (D.ask 0 t).2.ids = []) ∨
      ((D.ask 0 t).1.is = true ∧ ∃ e, D.ts (D.ask 0 t).1.id = some e ∧ e.done = false ∧ (D.ask 0 t).1.id ∈ D.ids ∧ (D.ask 0 t).1.n = (e.tries.length : Int) ∧ (D.ask 0 t).2.ts = (fun j => if j = (D.ask 0 t).1.id then some { e with tries := e.tries ++ [((0 : Int), t)], lost := false } else D.ts j) ∧ (D.ask 0 t).2.tick = t ∧ (D.ask 0 t).2.ids = D.ids ∧ (D.ask 0 t).2.ws.length = D.ws.length)) := by
  obtain ⟨v, hv, hd⟩ := hl
  have h0 := ok.tck
  have hw : D.wrong 0 t = 0 := by
    have hwl := ok.wsl
    have hno : D.no 0 = false := decide_eq_false (by omega)
    unfold Pl.wrong
    rw [hno, if_neg (by simp; omega), if_neg (by omega)]
  have hr : ∀ k e, D.ts k = some e → D.run e t = false := fun k e he => by
    cases q : D.run e t
    · rfl
    · obtain ⟨_, _, y, hy, hlt⟩ := (run_eq _ _ _).1 q
      have := (ok.tri k e he y (List.mem_of_getLast? hy)).2.2
      omega
  have hb : D.busy v 0 t = false := by
    cases q : D.busy v 0 t
    · rfl
    · obtain ⟨_, e, y, he, _, _, h2⟩ := (busy_eq _ _ _ _).1 q
      rw [hr _ e he] at h2
      cases h2
  have key : D.ask 0 t = match D.pickIn t D.ids with
    | none => (⟨0, [], 0, false, 0⟩, { D with tick := t })
    | some (k, e) => (⟨k, e.body, e.tries.length, true, 0⟩, ({ D with tick := t } : Pl).give 0 v t k e) := by
    unfold Pl.ask
    rw [hw, if_neg (by simp), show ((0 : Int).toNat) = 0 from rfl, hv]
    simp only [hd]
    rw [if_neg (by simp), if_neg (by rw [hb]; simp)]
    cases D.pickIn t D.ids with
    | none => rfl
    | some ke => rfl
  rw [key]
  cases hp : D.pickIn t D.ids with
  | none =>
    refine ⟨rfl, .inl ⟨rfl, ?_⟩⟩
    unfold Pl.pickIn at hp
    rw [List.findSome?_eq_none_iff] at hp
    unfold opn
    rw [List.filter_eq_nil_iff]
    intro k hk
    have h1 := hp k hk
    show ¬ (match D.ts k with | some e => !e.done | none => false) = true
    cases hts : D.ts k with
    | none => simp
    | some e =>
      rw [hts] at h1
      simp only [hr k e hts] at h1
      simp only
      cases hde : e.done
      · rw [hde] at h1; simp at h1
      · simp
  | some ke =>
    obtain ⟨k, e⟩ := ke
    obtain ⟨hk, hts, hde, _⟩ := pickIn_some hp
    exact ⟨rfl, .inr ⟨rfl, e, hts, hde, hk, rfl, rfl, rfl, rfl, by show (D.ws.set 0 _).length = _; rw [List.length_set]⟩⟩
def isOpn (D : Pl) (k : Int) : Bool := match D.ts k with
  | some e => !e.done
  | none => false
theorem isOpn_some {D : Pl} {k : Int} {e : En} (h : D.ts k = some e) : isOpn D k = !e.done := by unfold isOpn; rw [h]
theorem opn_is (D : Pl) (l : List Int) : opn D l = l.filter (isOpn D) := rfl
theorem opn_less {D D' : Pl} {k : Int} {e : En} (hk : k ∈ D.ids) (he : D.ts k = some e) (hd : e.done = false) (hi : D'.ids = D.ids) (hts : ∀ j, isOpn D' j = if j = k then false else isOpn D j) : (opn D' D'.ids).length + 1 ≤ (opn D D.ids).length := by
  have e1 : opn D' D'.ids = (opn D D.ids).filter (fun j => decide (j ≠ k)) := by
    rw [opn_is, opn_is, hi, List.filter_filter]
    refine List.filter_congr fun j _ => ?_
    rw [hts j]
    by_cases q : j = k <;> simp [q]
  have hm : k ∈ opn D D.ids := by
    rw [opn_is, List.mem_filter, isOpn_some he, hd]
    exact ⟨hk, rfl⟩
  rw [e1]
  have := List.length_filter_lt_length_iff_exists (p := fun j => decide (j ≠ k)) (l := opn D D.ids) |>.2 ⟨k, hm, by simp⟩
  omega
/-- The task given out is answered: one open task less. -/
theorem round_done {res : List UInt8 → List UInt8} {bs : List (List UInt8)} {D : Pl} (h : SamI res bs D) (ok : POk D) (hl : Liv D) {t : Int} (ht : D.tick + 7 ≤ t) (htm : t ≤ 1099511627776) (hs : (D.ask 0 t).1.is = true) {b : List UInt8} (hb : b.length ≤ 65536) :
    (opn ((D.ask 0 t).2.answer (D.ask 0 t).1.id 0 (D.ask 0 t).1.n b t).2.2 ((D.ask 0 t).2.answer (D.ask 0 t).1.id 0 (D.ask 0 t).1.n b t).2.2.ids).length + 1 ≤ (opn D D.ids).length := by
  obtain ⟨_, h1⟩ := round_ask ok hl h.tmo ht htm
  rcases h1 with ⟨h1, _⟩ | ⟨_, e, he, hd, hk, hn, hts, htk, hi, hwl⟩
  · rw [hs] at h1; cases h1
  · obtain ⟨A, hA⟩ : ∃ A, D.ask 0 t = A := ⟨_, rfl⟩
    rw [hA] at hs he hk hn hts htk hi hwl ⊢
    have hw : A.2.wrong 0 t = 0 := by
      have hwl2 := ok.wsl
      have h0 := ok.tck
      have hno : A.2.no 0 = false := decide_eq_false (by omega)
      unfold Pl.wrong
      rw [hno, if_neg (by simp; omega), if_neg (by omega)]
    have hg : A.2.ts A.1.id = some { e with tries := e.tries ++ [((0 : Int), t)], lost := false } := by rw [hts]; simp
    have hmine : En.mine { e with tries := e.tries ++ [((0 : Int), t)], lost := false } 0 A.1.n = true := by
      unfold En.mine
      rw [hn, Int.toNat_natCast]
      have : (e.tries ++ [((0 : Int), t)])[e.tries.length]? = some ((0 : Int), t) := by rw [List.getElem?_append_right (Nat.le_refl _), Nat.sub_self]; rfl
      simp only [this]
      simp
    refine opn_less hk he hd ?_ (fun j => ?_)
    · unfold Pl.answer
      rw [hw, if_neg (by simp), hg]
      simp only
      rw [hmine, if_neg (by simp), if_neg (by omega), hd, if_neg (by simp)]
      exact hi
    · unfold Pl.answer
      rw [hw, if_neg (by simp), hg]
      simp only
      rw [hmine, if_neg (by simp), if_neg (by omega), hd, if_neg (by simp)]
      by_cases q : j = A.1.id
      · simp [isOpn, q]
      · simp only [isOpn, q, if_false]
        rw [hts]
        simp only [q, if_false]
/-- All tasks answered: what Done returns. -/
theorem SamI.fin {res : List UInt8 → List UInt8} {bs : List (List UInt8)} {D : Pl} (h : SamI res bs D) (ho : opn D D.ids = []) : (ansOf D D.ids).map (fun r => (r.task, r.body)) = bs.mapIdx (fun i b => (3 * (i : Int), res b)) := by
  have key : ∀ l : List Nat, (∀ i ∈ l, i < bs.length) → (ansOf D (l.map (fun i : Nat => 3 * (i : Int)))).map (fun r => (r.task, r.body)) = l.map (fun i : Nat => (3 * (i : Int), res (bs[i]?.getD []))) := by
    intro l
    induction l with
    | nil => intro _; rfl
    | cons i l ih =>
      intro hl
      have hi := hl i (by simp)
      obtain ⟨e, he, hb⟩ := h.bod i _ (List.getElem?_eq_getElem hi)
      have hd : e.done = true := by
        unfold opn at ho
        rw [List.filter_eq_nil_iff] at ho
        have := ho (3 * (i : Int)) (by rw [h.ids, List.mem_map]; exact ⟨i, List.mem_range.2 hi, rfl⟩)
        rw [he] at this
        simpa using this
      obtain ⟨h1, h2⟩ := h.ans _ e he hd
      have ih := ih (fun j hj => hl j (List.mem_cons_of_mem _ hj))
      unfold ansOf at ih ⊢
      rw [List.map_cons, List.filterMap_cons, he]
      simp only [hd, if_true]
      rw [List.map_cons, ih, List.map_cons, h1, h2, hb, List.getElem?_eq_getElem hi]
      rfl
  have hk := key (List.range bs.length) (fun i hi => List.mem_range.1 hi)
  rw [← h.ids] at hk
  rw [hk]
  apply List.ext_getElem?
  intro i
  rw [List.getElem?_map, List.getElem?_mapIdx]
  by_cases hi : i < bs.length
  · rw [List.getElem?_range hi, List.getElem?_eq_getElem hi]
    simp [hi]
  · rw [List.getElem?_eq_none (by simp; omega), List.getElem?_eq_none (by omega)]
    rfl
end Go.Proofs.Ytfdacckkdjpjhaa
