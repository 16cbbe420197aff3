/- Several texts in one: PlO PlT PlU PjA. -/
import Derived.Test.YtfdacckkdjpjhaaPlM
import Derived.Test.YtfdacckkdjpjhaaPlL
/- Package pool: the contracts in one form, and the example of the section. -/
namespace Go.Proofs.Ytfdacckkdjpjhaa
open Go.RowKit

/-- The kinds of a pool's blocks. -/
def plKind (k : Option (Option TypeId)) : Bool := k == some (some 98) || k == some none || k == some (some 105) || k == some (some 103) || k == some (some 112)
/-- A pool and what it lies in. -/
structure PL (W : World) (p : Nat) (X : Nat → Prop) (D : Pl) : Prop where
  at' : ∃ R, PAt W p X R D
  kind : ∀ b, X b → plKind (kindAt W b) = true
/-- No task has more than n tries. -/
def TL (n : Nat) (D : Pl) : Prop := ∀ k e, D.ts k = some e → e.tries.length ≤ n
section
variable {W W' : World} {p : Nat} {X X' Z Z' R : Nat → Prop} {D : Pl}
theorem PX.min {mb : Nat} {wv : Value} {F : Int → Option Value} {ks : List Int} {B : Int → Nat} {TV BV AV : Int → Value} (h : PX W p mb wv F ks B TV BV AV X R D) :
    ∃ X1, PX W p mb wv F ks B TV BV AV X1 R D ∧ (∀ b, X1 b → X b) ∧ ∀ b, X1 b → plKind (kindAt W b) = true := by
  refine ⟨fun b => b = p ∨ b = mb ∨ wv.ownBlock = some b ∨ ∃ k e, D.ts k = some e ∧ (b = B k ∨ (TV k).ownBlock = some b),
    ⟨h.blk, h.map, h.row, h.emp, fun k e hk => ⟨(h.en k e hk).1, (h.en k e hk).2.1, .inr (.inr (.inr ⟨k, e, hk, .inl rfl⟩))⟩, fun k e hk => ⟨(h.tr k e hk).1, fun b hb => .inr (.inr (.inr ⟨k, e, hk, .inr hb⟩))⟩, h.bd, h.inj, h.tsep, .inl rfl, .inr (.inl rfl), fun b hb => .inr (.inr (.inl hb)), fun b hb => h.sep b ?_, fun b hb => h.xl b ?_, h.rl, h.ok⟩, fun b hb => ?_, fun b hb => ?_⟩
  rotate_left 3
  · rcases hb with rfl | rfl | hb | ⟨k, e, hk, rfl | hb⟩
    · rw [h.kp]; decide
    · rw [h.km]; decide
    · rw [h.kw hb]; decide
    · rw [h.ke hk]; decide
    · rw [h.kt hk hb]; decide
  all_goals
    rcases hb with rfl | rfl | hb | ⟨k, e, hk, rfl | hb⟩
    · exact h.xp
    · exact h.xm
    · exact h.xw b hb
    · exact (h.en k e hk).2.2
    · exact (h.tr k e hk).2 b hb
/-- After a step. -/
theorem PAt.pl (h : PAt W' p X' R D) (S : DStep X X' W W') : ∃ X1, PL W' p X1 D ∧ DStep X X1 W W' := by
  obtain ⟨_, _, _, _, _, _, _, _, h⟩ := h
  obtain ⟨X1, h1, h2, h3⟩ := h.min
  exact ⟨X1, ⟨⟨R, _, _, _, _, _, _, _, _, h1⟩, h3⟩, S.os, S.tape, S.output, S.size, S.block, fun k hk => S.grow k (h2 k hk)⟩
theorem PL.ok (h : PL W p X D) : POk D := by obtain ⟨⟨R, h⟩, _⟩ := h; exact h.ok
theorem PL.xl (h : PL W p X D) : ∀ b, X b → b < W.heap.size := by obtain ⟨⟨R, h⟩, _⟩ := h; exact h.xl
theorem PL.later (h : PL W p X D) (b : Below W.heap.size W W') : PL W' p X D := by
  obtain ⟨⟨R, h1⟩, h2⟩ := h
  refine ⟨⟨R, h1.later b⟩, fun x hx => ?_⟩
  have := h2 x hx
  unfold kindAt at this ⊢
  rw [b.block x (h1.xl x hx)]
  exact this
/-- Where another thing has turned. -/
theorem PL.off {base size n : Nat} {e : TypeId} {v : Value} {xs : List Value} (h : PL W p X D) (hO : W.ownsRow base e size v n xs) (he : plKind (some (some e)) = false) : Off v X := fun b hb hx => by
  have h1 := h.kind b hx
  rw [own_kind hO hb, he] at h1
  cases h1
theorem PL.offK (h : PL W p X D) {v : Value} {e : TypeId} (hk : ∀ b, v.ownBlock = some b → kindAt W b = some (some e)) (he : plKind (some (some e)) = false) : Off v X := fun b hb hx => by
  have h1 := h.kind b hx
  rw [hk b hb, he] at h1
  cases h1
theorem pl_new (n : Nat) (t : Int) (hn : 1 ≤ n ∧ n ≤ 64) (ht : 1 ≤ t ∧ t ≤ 1099511627776) (w : World) :
    Calls Try.prog 12 #[.int .i64 (n : Int), .int .i64 t] w fun e w' => ∃ p X, e = .returned (.tuple #[.pointer (some ⟨p, 0, none⟩), .int .i64 0]) ∧ PL w' p X (newPl n t) ∧ (∀ b, X b → w.heap.size ≤ b) ∧ Below w.heap.size w w' := by
  refine (pnew_any n t hn ht w).mono ?_
  rintro e w' ⟨p, X, rfl, h, hX, B⟩
  obtain ⟨_, _, _, _, _, _, _, _, h⟩ := h
  obtain ⟨X1, h1, h2, h3⟩ := h.min
  exact ⟨p, X1, rfl, ⟨⟨_, _, _, _, _, _, _, _, _, h1⟩, h3⟩, fun b hb => hX b (h2 b hb), B⟩
theorem pl_add (id : Int) (bv : Value) (b : List UInt8) (w : World) (h : PL w p X D) (hid : id ≤ 9223372036854775807) (hb : Rv w bv b.length (b.map vB)) (hbl : b.length ≤ 1000000000) :
    Calls Try.prog 13 #[.pointer (some ⟨p, 0, none⟩), .agg #[.int .i64 id, bv]] w fun e w' => e = .returned (.int .i64 (D.add id b).1) ∧ ∃ X', PL w' p X' (D.add id b).2 ∧ DStep X X' w w' := by
  obtain ⟨⟨R, h⟩, _⟩ := h
  refine (add_any id bv b w h hid hb hbl).mono ?_
  rintro e w' ⟨rfl, X', R', h1, S, _⟩
  exact ⟨rfl, h1.pl S⟩
theorem pl_ask (x t : Int) (w : World) (h : PL w p X D) {n : Nat} (hn : TL n D) (hn1 : n ≤ 1000000000) :
    Calls Try.prog 15 #[.pointer (some ⟨p, 0, none⟩), .int .i64 x, .int .i64 t] w fun e w' => ∃ bv X', e = .returned (.tuple #[.agg #[.int .i64 (D.ask x t).1.id, bv], .int .i64 (D.ask x t).1.n, .bool (D.ask x t).1.is, .int .i64 (D.ask x t).1.err]) ∧
      w'.ownsRow w.heap.size 5 1 bv (D.ask x t).1.body.length ((D.ask x t).1.body.map vB) ∧ PL w' p X' (D.ask x t).2 ∧ DStep X X' w w' := by
  obtain ⟨⟨R, h⟩, _⟩ := h
  refine (ask_any x t w h (fun k e hk => Nat.le_trans (hn k e hk) hn1)).mono ?_
  rintro e w' ⟨bv, X', rfl, hO, h1, S, _⟩
  obtain ⟨X1, h2, S1⟩ := h1.pl S
  exact ⟨bv, X1, rfl, hO, h2, S1⟩
theorem pl_answer (task worker tr : Int) (bv : Value) (b : List UInt8) (t : Int) (w : World) (h : PL w p X D) (htr : -9223372036854775808 ≤ tr ∧ tr ≤ 9223372036854775807) (hb : Rv w bv b.length (b.map vB)) (hbl : b.length ≤ 1000000000) (hsp : Off bv X) :
    Calls Try.prog 16 #[.pointer (some ⟨p, 0, none⟩), .agg #[.int .i64 task, .int .i64 worker, .int .i64 tr, bv], .int .i64 t] w fun e w' => e = .returned (.tuple #[.bool (D.answer task worker tr b t).1, .int .i64 (D.answer task worker tr b t).2.1]) ∧
      ∃ X', PL w' p X' (D.answer task worker tr b t).2.2 ∧ DStep X X' w w' := by
  obtain ⟨⟨R, h⟩, _⟩ := h
  refine (answer_any task worker tr bv b t w h htr hb hbl hsp).mono ?_
  rintro e w' ⟨rfl, R', h1, S, _⟩
  exact ⟨rfl, h1.pl S⟩
theorem pl_die (x t : Int) (w : World) (h : PL w p X D) :
    Calls Try.prog 38 #[.pointer (some ⟨p, 0, none⟩), .int .i64 x, .int .i64 t] w fun e w' => e = .returned (.int .i64 (D.die x t).1) ∧ ∃ X', PL w' p X' (D.die x t).2 ∧ DStep X X' w w' := by
  obtain ⟨⟨R, h⟩, _⟩ := h
  refine (die_any x t w h).mono ?_
  rintro e w' ⟨rfl, h1, S⟩
  exact ⟨rfl, h1.pl S⟩
theorem pl_revive (x : Int) (w : World) (h : PL w p X D) :
    Calls Try.prog 40 #[.pointer (some ⟨p, 0, none⟩), .int .i64 x] w fun e w' => e = .returned (.int .i64 (D.revive x).1) ∧ ∃ X', PL w' p X' (D.revive x).2 ∧ DStep X X' w w' := by
  obtain ⟨⟨R, h⟩, _⟩ := h
  refine (revive_any x w h).mono ?_
  rintro e w' ⟨rfl, h1, S⟩
  exact ⟨rfl, h1.pl S⟩
theorem pl_open (w : World) (h : PL w p X D) :
    Calls Try.prog 30 #[.pointer (some ⟨p, 0, none⟩)] w fun e w' => ∃ v, e = .returned v ∧ w'.ownsRow w.heap.size 3 1 v (opn D D.ids).length ((opn D D.ids).map (Value.int .i64)) ∧ Below w.heap.size w w' := by
  obtain ⟨⟨R, h⟩, _⟩ := h
  exact open_any w h
theorem pl_done (w : World) (h : PL w p X D) : Calls Try.prog 22 #[.pointer (some ⟨p, 0, none⟩)] w (DonePost w (ansOf D D.ids)) := by
  obtain ⟨⟨R, h⟩, _⟩ := h
  exact done_any w h
end
theorem TL.mono {m n : Nat} {D : Pl} (h : TL m D) (hn : m ≤ n) : TL n D := fun k e hk => Nat.le_trans (h k e hk) hn
theorem TL.new (n : Nat) (t : Int) : TL 0 (newPl n t) := fun _ _ h => by cases h
theorem TL.set {n : Nat} {D D' : Pl} (h : TL n D) {k : Int} {e : En} (hd : D'.ts = fun j => if j = k then some e else D.ts j) (he : e.tries.length ≤ n) : TL n D' := fun j f hf => by
  rw [hd] at hf
  change (if j = k then some e else D.ts j) = some f at hf
  split at hf
  · cases hf; exact he
  · exact h j f hf
theorem TL.add {n : Nat} {D : Pl} (h : TL n D) (id : Int) (b : List UInt8) : TL n (D.add id b).2 := by
  unfold Pl.add
  split
  · exact h
  · split
    · exact h
    · split
      · exact h
      · exact h.set (e := freshE b) rfl (Nat.zero_le _)
theorem TL.ask {n : Nat} {D : Pl} (h : TL n D) (x t : Int) : TL (n + 1) (D.ask x t).2 := by
  have h' := h.mono (Nat.le_succ n)
  unfold Pl.ask
  split
  · exact h'
  · split
    · exact h'
    · split
      · exact h'
      · split
        · exact h'
        · split
          · exact h'
          · rename_i k e hp
            obtain ⟨_, hts, _, _⟩ := pickIn_some hp
            refine TL.set (D := D) h' (k := k) (e := _) rfl ?_
            show (e.tries ++ _).length ≤ n + 1
            rw [List.length_append, List.length_singleton]
            exact Nat.succ_le_succ (h k e hts)
theorem TL.answer {n : Nat} {D : Pl} (h : TL n D) (task worker tr : Int) (b : List UInt8) (t : Int) : TL n (D.answer task worker tr b t).2.2 := by
  unfold Pl.answer
  split
  · exact h
  · split
    · exact h
    · rename_i e he
      split
      · exact h
      · split
        · exact h
        · split
          · exact h
          · exact TL.set (D := D) h (k := task) (e := { e with done := true, ans := ⟨task, worker, tr, b⟩ }) rfl (h task e he)
theorem TL.die {n : Nat} {D : Pl} (h : TL n D) (x t : Int) : TL n (D.die x t).2 := by
  unfold Pl.die
  split
  · exact h
  · split
    · exact h
    · split
      · exact h
      · intro k e hk
        rw [lose_eq] at hk
        change (D.ts k).map _ = some e at hk
        cases hts : D.ts k with
        | none => rw [hts] at hk; cases hk
        | some f => rw [hts] at hk; cases hk; exact h k f hts
theorem TL.revive {n : Nat} {D : Pl} (h : TL n D) (x : Int) : TL n (D.revive x).2 := by
  unfold Pl.revive
  split
  · exact h
  · split
    · exact h
    · split
      · exact h
      · exact h
end Go.Proofs.Ytfdacckkdjpjhaa

/- The law PoolOnce: what its lists say of the pool. -/
namespace Go.Proofs.Ytfdacckkdjpjhaa
open Go.RowKit

/-- What the law knows before its i-th operation. -/
structure OnceI (lim : Int) (i : Nat) (D : Pl) (L : List Tr) (a : List Int) : Prop where
  log : Log D L
  tl : TL i D
  tmo : D.timeout = lim
  tck : D.tick ≤ 3 * (i : Int)
  ws : D.ws.length = 4
  ids : ∀ x ∈ D.ids, x ≤ 11
  al : a.length = 16
  an : ∀ (j : Nat) (x : Int), a[j]? = some x → (x = 0 ∧ ∀ e, D.ts (j : Int) = some e → e.done = false) ∨ (1 ≤ x ∧ x ≤ (i : Int) ∧ ∃ e, D.ts (j : Int) = some e ∧ e.done = true ∧ e.ans.body = [UInt8.ofNat x.toNat])
  Ll : L.length ≤ i
section
variable {lim : Int} {i : Nat} {D : Pl} {L : List Tr} {a : List Int}
theorem OnceI.start (n : Nat) (hn : n = 4) (t : Int) : OnceI t 0 (newPl n t) [] (List.replicate 16 0) :=
  ⟨Log.new n t, TL.new n t, rfl, by show (0 : Int) ≤ _; omega, by rw [hn]; rfl, (fun _ h => by cases h), List.length_replicate .., fun j x hx => .inl ⟨(List.eq_of_mem_replicate (List.mem_of_getElem? hx)), fun e h => by cases h⟩, Nat.le_refl _⟩
/-- Where no task's state has changed but for its tries. -/
theorem an_same {D' : Pl} {j : Nat} {x : Int} (hs : ∀ k e', D'.ts k = some e' → ∃ e, D.ts k = some e ∧ e'.done = e.done) (hs2 : ∀ k e, D.ts k = some e → ∃ e', D'.ts k = some e' ∧ e'.done = e.done ∧ e'.ans = e.ans)
    (h : (x = 0 ∧ ∀ e, D.ts (j : Int) = some e → e.done = false) ∨ (1 ≤ x ∧ x ≤ (i : Int) ∧ ∃ e, D.ts (j : Int) = some e ∧ e.done = true ∧ e.ans.body = [UInt8.ofNat x.toNat])) :
    (x = 0 ∧ ∀ e, D'.ts (j : Int) = some e → e.done = false) ∨ (1 ≤ x ∧ x ≤ ((i + 1 : Nat) : Int) ∧ ∃ e, D'.ts (j : Int) = some e ∧ e.done = true ∧ e.ans.body = [UInt8.ofNat x.toNat]) := by
  rcases h with ⟨h1, h2⟩ | ⟨h1, h2, e, he, hd, hb⟩
  · refine .inl ⟨h1, fun e' he' => ?_⟩
    obtain ⟨e, he, hd⟩ := hs _ e' he'
    rw [hd]
    exact h2 e he
  · obtain ⟨e', he', hd', ha'⟩ := hs2 _ e he
    exact .inr ⟨h1, by omega, e', he', by rw [hd', hd], by rw [ha']; exact hb⟩
theorem OnceI.next (h : OnceI lim i D L a) {D' : Pl} {L' : List Tr} (hl : Log D' L') (ht : TL (i + 1) D') (h1 : D'.timeout = D.timeout) (h2 : D'.tick ≤ D.tick + 3) (h3 : D'.ws.length = D.ws.length) (h4 : ∀ x ∈ D'.ids, x ≤ 11)
    (hs : ∀ k e', D'.ts k = some e' → (∃ e, D.ts k = some e ∧ e'.done = e.done) ∨ (D.ts k = none ∧ e'.done = false)) (hs2 : ∀ k e, D.ts k = some e → ∃ e', D'.ts k = some e' ∧ e'.done = e.done ∧ e'.ans = e.ans) (hL : L'.length ≤ i + 1) : OnceI lim (i + 1) D' L' a := by
  refine ⟨hl, ht, h1.trans h.tmo, by have := h.tck; omega, h3.trans h.ws, h4, h.al, fun j x hx => ?_, hL⟩
  rcases h.an j x hx with ⟨q1, q2⟩ | ⟨q1, q2, e, he, hd, hb⟩
  · refine .inl ⟨q1, fun e' he' => ?_⟩
    rcases hs _ e' he' with ⟨e, he, hd⟩ | ⟨_, hd⟩
    · rw [hd]; exact q2 e he
    · exact hd
  · obtain ⟨e', he', hd', ha'⟩ := hs2 _ e he
    exact .inr ⟨q1, by omega, e', he', by rw [hd', hd], by rw [ha']; exact hb⟩
theorem OnceI.same (h : OnceI lim i D L a) : OnceI lim (i + 1) D L a :=
  h.next h.log (h.tl.mono (Nat.le_succ i)) rfl (by omega) rfl h.ids (fun k e he => .inl ⟨e, he, rfl⟩) (fun k e he => ⟨e, he, rfl, rfl⟩) (by have := h.Ll; omega)
theorem OnceI.later (h : OnceI lim i D L a) {t : Int} (ht : D.tick ≤ t) (ht2 : t ≤ D.tick + 3) : OnceI lim (i + 1) { D with tick := t } L a :=
  h.next (h.log.later ht) (h.tl.mono (Nat.le_succ i)) rfl ht2 rfl h.ids (fun k e he => .inl ⟨e, he, rfl⟩) (fun k e he => ⟨e, he, rfl, rfl⟩) (by have := h.Ll; omega)
theorem OnceI.add (h : OnceI lim i D L a) (id : Int) (hid : id ≤ 11) (b : List UInt8) : OnceI lim (i + 1) (D.add id b).2 L a ∧ (D.add id b).2.tick = D.tick := by
  have hl := h.log.add id b
  have ht := (h.tl.add id b).mono (Nat.le_succ i)
  unfold Pl.add at hl ht ⊢
  split
  · exact ⟨h.same, rfl⟩
  · rename_i h1
    rw [if_neg h1] at hl ht
    split
    · exact ⟨h.same, rfl⟩
    · rename_i h2
      rw [if_neg h2] at hl ht
      split
      · exact ⟨h.same, rfl⟩
      · rename_i hn
        rw [hn] at hl ht
        refine ⟨h.next hl ht rfl (by show D.tick ≤ D.tick + 3; omega) rfl (fun x hx => ?_) (fun k e' he' => ?_) (fun k e he => ?_) (by have := h.Ll; omega), rfl⟩
        · rcases (insI_mem id x D.ids).1 hx with rfl | hx
          · exact hid
          · exact h.ids x hx
        · change (if k = id then some (freshE b) else D.ts k) = some e' at he'
          split at he'
          · rename_i q
            cases he'
            exact .inr ⟨by rw [q]; exact hn, rfl⟩
          · exact .inl ⟨e', he', rfl⟩
        · refine ⟨e, ?_, rfl, rfl⟩
          show (if k = id then some (freshE b) else D.ts k) = some e
          rw [if_neg (fun q => by rw [q, hn] at he; cases he)]
          exact he
theorem OnceI.at (h : OnceI lim i D L a) (ok : POk D) {k : Int} {e : En} (hk : D.ts k = some e) : ∃ (j : Nat) (x : Int), k = (j : Int) ∧ j ≤ 11 ∧ a[j]? = some x ∧ (x = 0 ↔ e.done = false) := by
  have hm := (ok.mem k).2 ⟨e, hk⟩
  have h1 := h.ids k hm
  have h2 := (ok.idr k hm).1
  obtain ⟨j, rfl⟩ : ∃ j : Nat, k = (j : Int) := ⟨k.toNat, by omega⟩
  have hj : j < a.length := by rw [h.al]; omega
  refine ⟨j, a[j], rfl, by omega, List.getElem?_eq_getElem hj, ?_⟩
  rcases h.an j _ (List.getElem?_eq_getElem hj) with ⟨q1, q2⟩ | ⟨q1, _, f, hf, hd, _⟩
  · exact ⟨fun _ => q2 e hk, fun _ => q1⟩
  · rw [hk] at hf
    cases hf
    exact ⟨fun q => by omega, fun q => by rw [hd] at q; cases q⟩
/-- What an Ask has done. -/
theorem ask_cases (D : Pl) (x t : Int) :
    ((D.ask x t).1.is = false ∧ ((D.ask x t).1.err ≠ 0 ∧ (D.ask x t).2 = D ∨ (D.ask x t).1.err = 0 ∧ (D.ask x t).2 = { D with tick := t } ∧ D.tick ≤ t)) ∨
    ∃ (j : Nat) (v : Wk) (k : Int) (e : En), x = (j : Int) ∧ D.ws[j]? = some v ∧ D.tick ≤ t ∧ t ≤ 1099511627776 ∧ D.busy v x t = false ∧ D.pickIn t D.ids = some (k, e) ∧ D.ask x t = (⟨k, e.body, (e.tries.length : Int), true, 0⟩, ({ D with tick := t } : Pl).give j v t k e) := by
  obtain ⟨O, hO⟩ : ∃ O, D.ask x t = O := ⟨_, rfl⟩
  rw [hO]
  unfold Pl.ask at hO
  split at hO
  · rename_i hw
    subst hO
    exact .inl ⟨rfl, .inl ⟨hw, rfl⟩⟩
  · rename_i hw
    obtain ⟨hn0, ht0, ht1, ht2⟩ := wrong_ok (D := D) (x := x) (t := t) (by simpa using hw)
    obtain ⟨j, v, rfl, hi, hv⟩ := yes_worker hn0
    rw [Int.toNat_natCast, hv] at hO
    simp only at hO
    split at hO
    · subst hO; exact .inl ⟨rfl, .inl ⟨by show ¬ (19 : Int) = 0; decide, rfl⟩⟩
    · split at hO
      · subst hO; exact .inl ⟨rfl, .inl ⟨by show ¬ (15 : Int) = 0; decide, rfl⟩⟩
      · rename_i hb
        have hb : D.busy v (j : Int) t = false := by cases q : D.busy v (j : Int) t; rfl; exact absurd q hb
        split at hO
        · subst hO; exact .inl ⟨rfl, .inr ⟨rfl, rfl, ht2⟩⟩
        · rename_i k e hp
          subst hO
          exact .inr ⟨j, v, k, e, rfl, hv, ht2, ht1, hb, hp, rfl⟩
theorem OnceI.askNo (h : OnceI lim i D L a) {x t : Int} (ht2 : t ≤ D.tick + 3) (hn : (D.ask x t).1.is = false) : OnceI lim (i + 1) (D.ask x t).2 L a ∧ (D.ask x t).2.tick = if (D.ask x t).1.err = 0 then t else D.tick := by
  rcases ask_cases D x t with ⟨_, ⟨h1, h2⟩ | ⟨h1, h2, h3⟩⟩ | ⟨j, v, k, e, _, _, _, _, _, _, ha⟩
  · rw [h2, if_neg h1]
    exact ⟨h.same, rfl⟩
  · rw [h2, if_pos h1]
    exact ⟨h.later h3 ht2, rfl⟩
  · rw [ha] at hn
    cases hn
theorem OnceI.askYes (h : OnceI lim i D L a) (ok : POk D) {x t : Int} (ht2 : t ≤ D.tick + 3) (hy : (D.ask x t).1.is = true) :
    (D.ask x t).1.err = 0 ∧ (D.ask x t).2.tick = t ∧ (∃ (id m : Nat), (D.ask x t).1.id = (id : Int) ∧ id ≤ 11 ∧ (D.ask x t).1.n = (m : Int) ∧ m ≤ i ∧ a[id]? = some 0 ∧
      (∀ y ∈ L, y.over = false → t < y.tick + lim → (y.task = (id : Int) ∨ y.worker = x) → ∃ j u, y.task = ((j : Nat) : Int) ∧ j ≤ 11 ∧ a[j]? = some u ∧ u ≠ 0) ∧ OnceI lim (i + 1) (D.ask x t).2 (L ++ [⟨(id : Int), m, x, t, false⟩]) a) := by
  have hlog := h.log.ask ok x t
  have htl := h.tl.ask x t
  unfold Pl.logAsk at hlog
  rw [if_pos hy] at hlog
  rcases ask_cases D x t with ⟨h1, _⟩ | ⟨j, v, k, e, rfl, hv, ht0, _, hb, hp, ha⟩
  · rw [h1] at hy
    cases hy
  · rw [ha] at hlog htl ⊢
    obtain ⟨hkm, hts, hd, hr⟩ := pickIn_some hp
    obtain ⟨id, u, rfl, hid, hau, hu0⟩ := h.at ok hts
    refine ⟨rfl, rfl, id, e.tries.length, rfl, hid, rfl, h.tl _ e hts, by rw [hau, hu0.2 hd], fun y hy2 ho hlt hor => ?_, ?_⟩
    · obtain ⟨f, hf, hg⟩ := h.log.get y hy2
      obtain ⟨jy, uy, hjy, hjl, hauy, huy⟩ := h.at ok hf
      refine ⟨jy, uy, hjy, hjl, hauy, fun q => ?_⟩
      have hfd := huy.1 q
      have hhot : D.hot y t = true := (hot_eq D y t).2 ⟨⟨f, hf, hfd⟩, ho, by rw [h.tmo]; exact hlt⟩
      rcases hor with hor | hor
      · obtain ⟨f2, hf2, _, hrun⟩ := h.log.run ht0 hy2 hhot
        rw [hor, hts] at hf2
        cases hf2
        rw [hr] at hrun
        cases hrun
      · have := (h.log.busy ht0 hv).2 ⟨y, hy2, hor, hhot⟩
        rw [hb] at this
        cases this
    · have hk2 : ∀ q f, (({ D with tick := t } : Pl).give j v t (id : Int) e).ts q = some f → ∃ f0, D.ts q = some f0 ∧ f.done = f0.done := fun q f hf => by
        change (if q = (id : Int) then some _ else D.ts q) = some f at hf
        split at hf
        · rename_i e1
          cases hf
          exact ⟨e, by rw [e1]; exact hts, rfl⟩
        · exact ⟨f, hf, rfl⟩
      refine h.next ?_ htl rfl ht2 (by show (D.ws.set j _).length = _; rw [List.length_set]) h.ids (fun q f hf => .inl (hk2 q f hf)) (fun q f hf => ?_) (by rw [List.length_append, List.length_singleton]; have := h.Ll; omega)
      · have : ((e.tries.length : Int)).toNat = e.tries.length := Int.toNat_natCast _
        rw [this] at hlog
        exact hlog
      · by_cases e1 : q = (id : Int)
        · rw [e1, hts] at hf
          cases hf
          exact ⟨{ e with tries := e.tries ++ [((j : Int), t)], lost := false }, by show (if q = (id : Int) then some _ else D.ts q) = some _; rw [if_pos e1], rfl, rfl⟩
        · exact ⟨f, by show (if q = (id : Int) then some _ else D.ts q) = some _; rw [if_neg e1]; exact hf, rfl, rfl⟩
theorem OnceI.die (h : OnceI lim i D L a) (ok : POk D) {x t : Int} (ht2 : t ≤ D.tick + 3) : OnceI lim (i + 1) (D.die x t).2 (D.logDie x t L) a ∧ (D.die x t).2.tick = if (D.die x t).1 = 0 then t else D.tick := by
  have hlog := h.log.died ok x t
  have htl := (h.tl.die x t).mono (Nat.le_succ i)
  unfold Pl.logDie at hlog ⊢
  obtain ⟨O, hO⟩ : ∃ O, D.die x t = O := ⟨_, rfl⟩
  rw [hO] at hlog htl ⊢
  unfold Pl.die at hO
  split at hO
  · rename_i hw
    subst hO
    rw [if_neg hw, if_neg hw]
    exact ⟨h.same, rfl⟩
  · rename_i hw
    obtain ⟨hn0, ht0, ht1, ht3⟩ := wrong_ok (D := D) (x := x) (t := t) (by simpa using hw)
    obtain ⟨j, v, rfl, hi, hv⟩ := yes_worker hn0
    rw [Int.toNat_natCast, hv] at hO
    simp only at hO
    split at hO
    · subst hO
      rw [if_neg (by show ¬ (20 : Int) = 0; decide), if_neg (by show ¬ (20 : Int) = 0; decide)]
      exact ⟨h.same, rfl⟩
    · subst hO
      rw [if_pos rfl] at hlog
      rw [if_pos rfl, if_pos rfl]
      refine ⟨h.next hlog htl ?_ ht2 ?_ ?_ (fun k f hf => ?_) (fun k f hf => ?_) (by rw [List.length_map]; have := h.Ll; omega), rfl⟩
      · show (D.lose j v).timeout = _
        rw [lose_eq]
      · show (D.ws.set j _).length = _
        rw [List.length_set]
      · show ∀ x ∈ (D.lose j v).ids, x ≤ 11
        rw [lose_eq]
        exact h.ids
      · change (D.lose j v).ts k = some f at hf
        rw [lose_eq] at hf
        change (D.ts k).map _ = some f at hf
        cases hts : D.ts k with
        | none => rw [hts] at hf; cases hf
        | some e => rw [hts] at hf; cases hf; exact .inl ⟨e, rfl, rfl⟩
      · refine ⟨{ f with lost := f.lost || (v.has && decide (v.task = k) && mineLast f j) }, ?_, rfl, rfl⟩
        show (D.lose j v).ts k = _
        rw [lose_eq]
        show (D.ts k).map _ = _
        rw [hf]
        rfl
theorem OnceI.revive (h : OnceI lim i D L a) (x : Int) : OnceI lim (i + 1) (D.revive x).2 L a ∧ (D.revive x).2.tick = D.tick := by
  have hlog := h.log.revive x
  have htl := (h.tl.revive x).mono (Nat.le_succ i)
  unfold Pl.revive at hlog htl ⊢
  split
  · exact ⟨h.same, rfl⟩
  · rename_i h1
    rw [if_neg h1] at hlog htl
    split
    · exact ⟨h.same, rfl⟩
    · rename_i v hv
      rw [hv] at hlog htl
      simp only at hlog htl
      split
      · rename_i h2
        rw [if_pos h2] at hlog htl
        exact ⟨h.next hlog htl rfl (by show D.tick ≤ D.tick + 3; omega) (by show (D.ws.set _ _).length = _; rw [List.length_set]) h.ids (fun k e he => .inl ⟨e, he, rfl⟩) (fun k e he => ⟨e, he, rfl, rfl⟩) (by have := h.Ll; omega), rfl⟩
      · exact ⟨h.same, rfl⟩
theorem OnceI.answer (h : OnceI lim i D L a) (ok : POk D) {y : Tr} (hy : y ∈ L) {t : Int} (ht1 : D.tick ≤ t) (ht2 : t ≤ D.tick + 3) (hi : i ≤ 40) :
    (D.answer y.task y.worker (y.num : Int) [UInt8.ofNat (i + 1)] t).2.1 = 0 ∧ (D.answer y.task y.worker (y.num : Int) [UInt8.ofNat (i + 1)] t).2.2.tick = t ∧
      ∃ (j : Nat) (u : Int), y.task = (j : Int) ∧ j ≤ 11 ∧ a[j]? = some u ∧ (D.answer y.task y.worker (y.num : Int) [UInt8.ofNat (i + 1)] t).1 = decide (u = 0) ∧
        OnceI lim (i + 1) (D.answer y.task y.worker (y.num : Int) [UInt8.ofNat (i + 1)] t).2.2 L (if u = 0 then a.set j ((i : Int) + 1) else a) := by
  obtain ⟨e, he, hg⟩ := h.log.get y hy
  obtain ⟨j, u, hj, hjl, hau, hu0⟩ := h.at ok he
  have htri := ok.tri _ e he _ (List.mem_of_getElem? hg)
  have hlog := h.log.answer y.task y.worker (y.num : Int) [UInt8.ofNat (i + 1)] t
  have htl := (h.tl.answer y.task y.worker (y.num : Int) [UInt8.ofNat (i + 1)] t).mono (Nat.le_succ i)
  have hwr : D.wrong y.worker t = 0 := by
    unfold Pl.wrong Pl.no
    have h1 := htri.1
    have h2 := h.tck
    have h3 := ok.tck
    have h1 : 0 ≤ y.worker ∧ y.worker < (D.ws.length : Int) := h1
    rw [if_neg (by simp; omega), if_neg (by omega)]
  have hmine : e.mine y.worker (y.num : Int) = true := by
    unfold En.mine
    rw [Int.toNat_natCast, hg]
    simp
  unfold Pl.answer at hlog htl ⊢
  rw [hwr, he] at hlog htl ⊢
  simp only [ne_eq, not_true_eq_false, if_false, hmine, List.length_singleton] at hlog htl ⊢
  rw [if_neg (by decide), if_neg (by decide)] at hlog htl ⊢
  by_cases hd : e.done = true
  · rw [if_pos hd] at hlog htl ⊢
    have hu : ¬ u = 0 := fun q => by have := hu0.1 q; rw [hd] at this; cases this
    refine ⟨rfl, rfl, j, u, hj, hjl, hau, by simp [hu], ?_⟩
    rw [if_neg hu]
    exact h.later ht1 ht2
  · rw [if_neg hd] at hlog htl ⊢
    have hu : u = 0 := hu0.2 (by simpa using hd)
    refine ⟨rfl, rfl, j, u, hj, hjl, hau, by simp [hu], ?_⟩
    rw [if_pos hu]
    refine ⟨hlog, htl, h.tmo, by show t ≤ _; have := h.tck; omega, h.ws, h.ids, by rw [List.length_set]; exact h.al, fun k x hx => ?_, by have := h.Ll; omega⟩
    by_cases hk : j = k
    · subst hk
      rw [List.getElem?_set_self (by rw [h.al]; omega)] at hx
      cases hx
      refine .inr ⟨by omega, by omega, { e with done := true, ans := ⟨y.task, y.worker, (y.num : Int), [UInt8.ofNat (i + 1)]⟩ }, ?_, rfl, ?_⟩
      · show (if (j : Int) = y.task then _ else D.ts (j : Int)) = _
        rw [if_pos hj.symm]
      · show [UInt8.ofNat (i + 1)] = _
        congr 2
    · rw [List.getElem?_set_ne hk] at hx
      have hne : ¬ (k : Int) = y.task := by rw [hj]; omega
      have e1 : (if (k : Int) = y.task then some { e with done := true, ans := ⟨y.task, y.worker, (y.num : Int), [UInt8.ofNat (i + 1)]⟩ } else D.ts (k : Int)) = D.ts (k : Int) := if_neg hne
      rcases h.an k x hx with ⟨q1, q2⟩ | ⟨q1, q2, q3⟩
      · exact .inl ⟨q1, fun f hf => q2 f (e1 ▸ hf)⟩
      · exact .inr ⟨q1, by omega, by
          obtain ⟨f, hf, r⟩ := q3
          exact ⟨f, e1.trans hf, r⟩⟩
end
end Go.Proofs.Ytfdacckkdjpjhaa

/- Package pool: the contracts over all that a pool lies in; the end of PoolOnce. -/
namespace Go.Proofs.Ytfdacckkdjpjhaa
open Go.RowKit

/-- A pool, and all that it lies in. -/
def PZ (W : World) (p : Nat) (Z : Nat → Prop) (D : Pl) : Prop := ∃ X R, PAt W p X R D ∧ ∀ b, Z b ↔ X b ∨ R b
section
variable {W W' : World} {p : Nat} {Z Z' Y Y' X X' R R' : Nat → Prop} {D D' : Pl}
theorem PZ.ok (h : PZ W p Z D) : POk D := by obtain ⟨X, R, h, _⟩ := h; exact h.ok
theorem PZ.zl (h : PZ W p Z D) : ∀ b, Z b → b < W.heap.size := by
  obtain ⟨X, R, h, hz⟩ := h
  exact fun b hb => ((hz b).1 hb).elim (h.xl b) (h.rl b)
theorem PZ.kept (h : PZ W p Z D) (hs : W.heap.size ≤ W'.heap.size) (hb : ∀ b, Z b → W'.heap[b]? = W.heap[b]?) : PZ W' p Z D := by
  obtain ⟨X, R, ⟨_, _, _, _, _, _, _, _, h⟩, hz⟩ := h
  exact ⟨X, R, ⟨_, _, _, _, _, _, _, _, h.kept hs (fun b q => hb b ((hz b).2 (.inl q))) (fun b q => hb b ((hz b).2 (.inr q)))⟩, hz⟩
theorem PZ.later (h : PZ W p Z D) (b : Below W.heap.size W W') : PZ W' p Z D := h.kept b.size (fun x hx => b.block x (h.zl x hx))
theorem PZ.other (h : PZ W p Z D) (S : DStep Y Y' W W') (hs : ∀ b, Z b → ¬ Y b) : PZ W' p Z D := h.kept S.size (fun x hx => S.block x (h.zl x hx) (hs x hx))
theorem PZ.set (h : PZ W p Z D) {b i : Nat} (hb : ¬ Z b) (v : Value) : PZ (W.setCell ⟨b, i, none⟩ v) p Z D :=
  h.kept (by rw [World.size_setCell]; exact Nat.le_refl _) (fun x hx => Below.heap_setCell _ _ _ _ (fun e => hb (by have : x = b := e; rw [← this]; exact hx)))
theorem PAt.pz (_h : PAt W p X R D) (h' : PAt W' p X' R' D') (S : DStep X X' W W') (hr : ∀ x, R' x → R x ∨ W.heap.size ≤ x) (hz : ∀ b, Z b ↔ X b ∨ R b) : ∃ Z', PZ W' p Z' D' ∧ DStep Z Z' W W' :=
  ⟨fun b => X' b ∨ R' b, ⟨X', R', h', fun _ => Iff.rfl⟩, S.os, S.tape, S.output, S.size, fun k hk hZ => S.block k hk (fun hx => hZ ((hz k).2 (.inl hx))), fun k hk => by
    rcases hk with hk | hk
    · exact (S.grow k hk).imp (fun h => (hz k).2 (.inl h)) id
    · exact (hr k hk).imp (fun h => (hz k).2 (.inr h)) id⟩
theorem pz_new (n : Nat) (t : Int) (hn : 1 ≤ n ∧ n ≤ 64) (ht : 1 ≤ t ∧ t ≤ 1099511627776) (w : World) :
    Calls Try.prog 12 #[.int .i64 (n : Int), .int .i64 t] w fun e w' => ∃ p Z, e = .returned (.tuple #[.pointer (some ⟨p, 0, none⟩), .int .i64 0]) ∧ PZ w' p Z (newPl n t) ∧ (∀ b, Z b → w.heap.size ≤ b) ∧ Below w.heap.size w w' := by
  refine (pnew_any n t hn ht w).mono ?_
  rintro e w' ⟨p, X, rfl, h, hX, B⟩
  exact ⟨p, fun b => X b ∨ False, rfl, ⟨X, fun _ => False, h, fun _ => Iff.rfl⟩, fun b hb => hb.elim (hX b) False.elim, B⟩
theorem pz_add (id : Int) (bv : Value) (b : List UInt8) (w : World) (h : PZ w p Z D) (hid : id ≤ 9223372036854775807) (hb : Rv w bv b.length (b.map vB)) (hbl : b.length ≤ 1000000000) :
    Calls Try.prog 13 #[.pointer (some ⟨p, 0, none⟩), .agg #[.int .i64 id, bv]] w fun e w' => e = .returned (.int .i64 (D.add id b).1) ∧ ∃ Z', PZ w' p Z' (D.add id b).2 ∧ DStep Z Z' w w' := by
  obtain ⟨X, R, h, hz⟩ := h
  refine (add_any id bv b w h hid hb hbl).mono ?_
  rintro e w' ⟨rfl, X', R', h1, S, hr⟩
  exact ⟨rfl, h.pz h1 S hr hz⟩
theorem pz_ask (x t : Int) (w : World) (h : PZ w p Z D) {n : Nat} (hn : TL n D) (hn1 : n ≤ 1000000000) :
    Calls Try.prog 15 #[.pointer (some ⟨p, 0, none⟩), .int .i64 x, .int .i64 t] w fun e w' => ∃ bv Z', e = .returned (.tuple #[.agg #[.int .i64 (D.ask x t).1.id, bv], .int .i64 (D.ask x t).1.n, .bool (D.ask x t).1.is, .int .i64 (D.ask x t).1.err]) ∧
      w'.ownsRow w.heap.size 5 1 bv (D.ask x t).1.body.length ((D.ask x t).1.body.map vB) ∧ PZ w' p Z' (D.ask x t).2 ∧ DStep Z Z' w w' ∧ Off bv Z' := by
  obtain ⟨X, R, h, hz⟩ := h
  refine (ask_any x t w h (fun k e hk => Nat.le_trans (hn k e hk) hn1)).mono ?_
  rintro e w' ⟨bv, X', rfl, hO, h1, S, hoff⟩
  refine ⟨bv, fun b => X' b ∨ R b, rfl, hO, ⟨X', R, h1, fun _ => Iff.rfl⟩, ⟨S.os, S.tape, S.output, S.size, fun k hk hZ => S.block k hk (fun hx => hZ ((hz k).2 (.inl hx))), fun k hk => ?_⟩, fun b hb hx => ?_⟩
  · rcases hk with hk | hk
    · exact (S.grow k hk).imp (fun h => (hz k).2 (.inl h)) id
    · exact .inl ((hz k).2 (.inr hk))
  · rcases hx with hx | hx
    · exact hoff b hb hx
    · have h1 := (hO.lt b hb).1
      have h2 := h.rl b hx
      omega
theorem pz_answer (task worker tr : Int) (bv : Value) (b : List UInt8) (t : Int) (w : World) (h : PZ w p Z D) (htr : -9223372036854775808 ≤ tr ∧ tr ≤ 9223372036854775807) (hb : Rv w bv b.length (b.map vB)) (hbl : b.length ≤ 1000000000) (hsp : Off bv Z) :
    Calls Try.prog 16 #[.pointer (some ⟨p, 0, none⟩), .agg #[.int .i64 task, .int .i64 worker, .int .i64 tr, bv], .int .i64 t] w fun e w' => e = .returned (.tuple #[.bool (D.answer task worker tr b t).1, .int .i64 (D.answer task worker tr b t).2.1]) ∧
      ∃ Z', PZ w' p Z' (D.answer task worker tr b t).2.2 ∧ DStep Z Z' w w' := by
  obtain ⟨X, R, h, hz⟩ := h
  refine (answer_any task worker tr bv b t w h htr hb hbl (fun g hg hx => hsp g hg ((hz g).2 (.inl hx)))).mono ?_
  rintro e w' ⟨rfl, R', h1, S, hr⟩
  exact ⟨rfl, h.pz h1 S hr hz⟩
theorem pz_die (x t : Int) (w : World) (h : PZ w p Z D) :
    Calls Try.prog 38 #[.pointer (some ⟨p, 0, none⟩), .int .i64 x, .int .i64 t] w fun e w' => e = .returned (.int .i64 (D.die x t).1) ∧ ∃ Z', PZ w' p Z' (D.die x t).2 ∧ DStep Z Z' w w' := by
  obtain ⟨X, R, h, hz⟩ := h
  refine (die_any x t w h).mono ?_
  rintro e w' ⟨rfl, h1, S⟩
  exact ⟨rfl, h.pz h1 S (fun _ h => .inl h) hz⟩
theorem pz_revive (x : Int) (w : World) (h : PZ w p Z D) :
    Calls Try.prog 40 #[.pointer (some ⟨p, 0, none⟩), .int .i64 x] w fun e w' => e = .returned (.int .i64 (D.revive x).1) ∧ ∃ Z', PZ w' p Z' (D.revive x).2 ∧ DStep Z Z' w w' := by
  obtain ⟨X, R, h, hz⟩ := h
  refine (revive_any x w h).mono ?_
  rintro e w' ⟨rfl, h1, S⟩
  exact ⟨rfl, h.pz h1 S (fun _ h => .inl h) hz⟩
theorem pz_open (w : World) (h : PZ w p Z D) :
    Calls Try.prog 30 #[.pointer (some ⟨p, 0, none⟩)] w fun e w' => ∃ v, e = .returned v ∧ w'.ownsRow w.heap.size 3 1 v (opn D D.ids).length ((opn D D.ids).map (Value.int .i64)) ∧ Below w.heap.size w w' := by
  obtain ⟨X, R, h, _⟩ := h
  exact open_any w h
theorem pz_done (w : World) (h : PZ w p Z D) : Calls Try.prog 22 #[.pointer (some ⟨p, 0, none⟩)] w (DonePost w (ansOf D D.ids)) := by
  obtain ⟨X, R, h, _⟩ := h
  exact done_any w h
end
def isDone (D : Pl) (k : Int) : Bool := match D.ts k with
  | some e => e.done
  | none => false
theorem ansOf_eq (D : Pl) : ∀ l : List Int, (ansOf D l).length = (l.filter (isDone D)).length
  | [] => rfl
  | k :: l => by
    have ih := ansOf_eq D l
    unfold ansOf isDone at *
    cases hts : D.ts k with
    | none => simpa [List.filterMap_cons, List.filter_cons, hts] using ih
    | some e => cases hd : e.done <;> simpa [List.filterMap_cons, List.filter_cons, hts, hd] using ih
theorem ansOf_mem (D : Pl) {l : List Int} {r : Rep} (h : r ∈ ansOf D l) : ∃ k e, k ∈ l ∧ D.ts k = some e ∧ e.done = true ∧ r = e.ans := by
  unfold ansOf at h
  obtain ⟨k, hk, hr⟩ := List.mem_filterMap.1 h
  cases hts : D.ts k with
  | none => rw [hts] at hr; cases hr
  | some e =>
    rw [hts] at hr
    simp only at hr
    split at hr
    · rename_i hd
      exact ⟨k, e, hk, hts, hd, (Option.some.inj hr).symm⟩
    · cases hr
section
variable {lim : Int} {i : Nat} {D : Pl} {L : List Tr} {a : List Int}
theorem OnceI.fin (h : OnceI lim i D L a) (ok : POk D) : (ansOf D D.ids).length = a.countP (fun x => decide (0 < x)) := by
  rw [ansOf_eq]
  have e1 : a = (List.range a.length).map (fun j => a[j]?.getD 0) := by
    apply List.ext_getElem?
    intro j
    by_cases hj : j < a.length
    · rw [List.getElem?_map, List.getElem?_range hj, List.getElem?_eq_getElem hj]; simp [hj]
    · rw [List.getElem?_eq_none (by omega), List.getElem?_eq_none (by simp; omega)]
  have e2 : a.countP (fun x => decide (0 < x)) = ((List.range a.length).filter (fun j => decide (0 < a[j]?.getD 0))).length := by
    conv => lhs; rw [e1]
    rw [List.countP_map, List.countP_eq_length_filter]
    rfl
  rw [e2]
  have hmem : ∀ k ∈ D.ids, ∃ j : Nat, k = (j : Int) ∧ j ≤ 11 := fun k hk => by
    have h1 := h.ids k hk
    have h2 := (ok.idr k hk).1
    exact ⟨k.toNat, by omega, by omega⟩
  have hp : ((List.range a.length).filter (fun j => decide (0 < a[j]?.getD 0))).Perm ((D.ids.filter (isDone D)).map Int.toNat) := by
    refine (List.perm_ext_iff_of_nodup (List.Pairwise.filter _ List.nodup_range) ?_).2 (fun j => ?_)
    · have hn : (D.ids.filter (isDone D)).Pairwise (· < ·) := ok.ord.filter _
      unfold List.Nodup
      rw [List.pairwise_map]
      refine List.pairwise_iff_forall_sublist.2 fun {x y} hs => ?_
      have hlt := List.pairwise_iff_forall_sublist.1 hn hs
      have hx : x ∈ D.ids := (List.mem_filter.1 (hs.subset (by simp))).1
      have hy : y ∈ D.ids := (List.mem_filter.1 (hs.subset (by simp))).1
      have h1 := (ok.idr x hx).1
      omega
    · rw [List.mem_filter, List.mem_map]
      constructor
      · rintro ⟨hj, hx⟩
        have hj2 := List.mem_range.1 hj
        rw [List.getElem?_eq_getElem hj2] at hx
        have hx : 0 < a[j] := by simpa using hx
        rcases h.an j _ (List.getElem?_eq_getElem hj2) with ⟨q, _⟩ | ⟨_, _, e, he, hd, _⟩
        · omega
        · exact ⟨(j : Int), List.mem_filter.2 ⟨(ok.mem _).2 ⟨e, he⟩, by unfold isDone; rw [he]; exact hd⟩, Int.toNat_natCast j⟩
      · rintro ⟨k, hk, rfl⟩
        obtain ⟨hk1, hk2⟩ := List.mem_filter.1 hk
        obtain ⟨j, rfl, hj⟩ := hmem k hk1
        rw [Int.toNat_natCast]
        have hjl : j < a.length := by rw [h.al]; omega
        refine ⟨List.mem_range.2 hjl, ?_⟩
        rw [List.getElem?_eq_getElem hjl]
        unfold isDone at hk2
        rcases h.an j _ (List.getElem?_eq_getElem hjl) with ⟨_, q⟩ | ⟨q, _⟩
        · exfalso
          cases hts : D.ts (j : Int) with
          | none => rw [hts] at hk2; cases hk2
          | some e =>
            rw [hts] at hk2
            have hk2 : e.done = true := hk2
            rw [q e hts] at hk2
            cases hk2
        · simp only [Option.getD_some, decide_eq_true_eq]
          omega
  have := hp.length_eq
  rw [List.length_map] at this
  exact this.symm
theorem OnceI.rep (h : OnceI lim i D L a) (ok : POk D) {r : Rep} (hr : r ∈ ansOf D D.ids) : ∃ (j : Nat) (x : Int), j ≤ 11 ∧ r.task = (j : Int) ∧ a[j]? = some x ∧ r.body = [UInt8.ofNat x.toNat] ∧ 1 ≤ x ∧ x ≤ (i : Int) := by
  obtain ⟨k, e, hk, he, hd, rfl⟩ := ansOf_mem D hr
  obtain ⟨j, x, rfl, hj, hx, hx0⟩ := h.at ok he
  have ht := h.log.ans _ e he hd
  rcases h.an j x hx with ⟨q, _⟩ | ⟨q1, q2, f, hf, _, hb⟩
  · have := hx0.1 q
    rw [hd] at this
    cases this
  · rw [he] at hf
    cases hf
    exact ⟨j, x, hj, ht, hx, hb, q1, q2⟩
end
end Go.Proofs.Ytfdacckkdjpjhaa

/- The law PoolJournals, plain: its pool and what it logs. -/
namespace Go.Proofs.Ytfdacckkdjpjhaa
open Go.RowKit

theorem answer_got {D : Pl} {id x n t : Int} {b : List UInt8} {e : En} (hw : D.wrong x t = 0) (hk : D.ts id = some e) (hm : e.mine x n = true) (hb : b.length ≤ 65536) :
    D.answer id x n b t = if e.done = true then (false, 0, { D with tick := t }) else (true, 0, { D with tick := t, ts := fun j => if j = id then some { e with done := true, ans := ⟨id, x, n, b⟩ } else D.ts j }) := by
  unfold Pl.answer
  rw [hw, if_neg (by simp), hk]
  simp only
  rw [hm, if_neg (by simp), if_neg (by omega)]
/-- An Ask that gives a task, and two answers at once: the first one is taken. -/
theorem ask_twice {D : Pl} (ok : POk D) {x t : Int} (hs : (D.ask x t).1.is = true) {b b2 : List UInt8} (hb : b.length ≤ 65536) (hb2 : b2.length ≤ 65536) :
    ∃ (e : En) (e2 : En) (D1 : Pl), D.ts (D.ask x t).1.id = some e ∧ e.done = false ∧ (D.ask x t).1.id ∈ D.ids ∧ (D.ask x t).2.answer (D.ask x t).1.id x (D.ask x t).1.n b t = (true, 0, D1) ∧ D1.answer (D.ask x t).1.id x (D.ask x t).1.n b2 t = (false, 0, D1) ∧ D1.tick = t ∧ D1.ids = D.ids ∧
      (∀ j, D1.ts j = if j = (D.ask x t).1.id then some e2 else D.ts j) ∧ e2.done = true ∧ e2.ans.task = (D.ask x t).1.id ∧ e2.ans.body = b ∧ D.tick ≤ t := by
  rcases ask_cases D x t with ⟨h1, _⟩ | ⟨j, v, k, e, rfl, hv, ht, htm, _, hp, ha⟩
  · rw [hs] at h1; cases h1
  · obtain ⟨hk, hts, hd, _⟩ := pickIn_some hp
    have hjl := (List.getElem?_eq_some_iff.1 hv).1
    have h0 := ok.tck
    rw [ha]
    simp only
    obtain ⟨e1, he1⟩ : ∃ e1 : En, ({ e with tries := e.tries ++ [((j : Int), t)], lost := false } : En) = e1 := ⟨_, rfl⟩
    have hmine : e1.mine (j : Int) (e.tries.length : Int) = true := by
      rw [← he1]
      unfold En.mine
      rw [Int.toNat_natCast]
      have : (e.tries ++ [((j : Int), t)])[e.tries.length]? = some ((j : Int), t) := by rw [List.getElem?_append_right (Nat.le_refl _), Nat.sub_self]; rfl
      simp only [this]
      simp
    have hd1 : e1.done = false := by rw [← he1]; exact hd
    obtain ⟨G, hG⟩ : ∃ G, ({ D with tick := t } : Pl).give j v t k e = G := ⟨_, rfl⟩
    have g1 : ∀ i, G.ts i = if i = k then some e1 else D.ts i := fun i => by rw [← hG, ← he1]; rfl
    have g2 : G.ids = D.ids := by rw [← hG]; rfl
    have g3 : G.ws.length = D.ws.length := by rw [← hG]; show (D.ws.set _ _).length = _; rw [List.length_set]
    have g4 : G.tick = t := by rw [← hG]; rfl
    have hw : G.wrong (j : Int) t = 0 := by
      have hno : G.no (j : Int) = false := decide_eq_false (by omega)
      unfold Pl.wrong
      rw [hno, if_neg (by simp; omega), if_neg (by omega)]
    rw [hG]
    have hgk : G.ts k = some e1 := by rw [g1, if_pos rfl]
    have a1 := answer_got (b := b) hw hgk hmine hb
    rw [hd1, if_neg (by simp)] at a1
    obtain ⟨D1, hD1⟩ : ∃ D1, ({ G with tick := t, ts := fun i => if i = k then some { e1 with done := true, ans := ⟨k, (j : Int), (e.tries.length : Int), b⟩ } else G.ts i } : Pl) = D1 := ⟨_, rfl⟩
    rw [hD1] at a1
    have d1 : D1.ts k = some { e1 with done := true, ans := ⟨k, (j : Int), (e.tries.length : Int), b⟩ } := by rw [← hD1]; simp
    have d2 : D1.wrong (j : Int) t = 0 := by
      rw [← hD1]
      have hno : G.no (j : Int) = false := decide_eq_false (by omega)
      have hno2 : ({ G with tick := t, ts := fun i => if i = k then some { e1 with done := true, ans := ⟨k, (j : Int), (e.tries.length : Int), b⟩ } else G.ts i } : Pl).no (j : Int) = false := hno
      unfold Pl.wrong
      rw [hno2, if_neg (by simp; omega), if_neg (by simp)]
    have a2 := answer_got (b := b2) d2 d1 (show En.mine { e1 with done := true, ans := ⟨k, (j : Int), (e.tries.length : Int), b⟩ } (j : Int) (e.tries.length : Int) = true from hmine) hb2
    rw [if_pos rfl] at a2
    have e4 : ({ D1 with tick := t } : Pl) = D1 := by rw [← hD1]
    rw [e4] at a2
    refine ⟨e, { e1 with done := true, ans := ⟨k, (j : Int), (e.tries.length : Int), b⟩ }, D1, hts, hd, hk, a1, a2, by rw [← hD1], by rw [← hD1]; exact g2, fun i => ?_, rfl, rfl, rfl, ht⟩
    rw [← hD1]
    by_cases q : i = k
    · simp [q]
    · simp only [q, if_false]
      rw [g1, if_neg q]
/-- The law's pool beside what it has logged. -/
structure JouI (i : Nat) (D : Pl) (K : List (Int × List UInt8)) : Prop where
  tck : D.tick ≤ (i : Int)
  nd : (K.map (·.1)).Nodup
  dn : ∀ k e, D.ts k = some e → e.done = true → k ∈ K.map (·.1)
  an : ∀ x ∈ K, ∃ e, D.ts x.1 = some e ∧ e.done = true ∧ e.ans.task = x.1 ∧ e.ans.body = x.2
  bl : ∀ x ∈ K, x.2.length = 2
  kl : K.length ≤ i
section
variable {i : Nat} {D : Pl} {K : List (Int × List UInt8)}
theorem JouI.ask (h : JouI i D K) (x : Int) : JouI (i + 1) (D.ask x (i : Int)).2 K := by
  have hk := h.kl
  have ht := h.tck
  rcases ask_cases D x (i : Int) with ⟨_, ⟨_, h2⟩ | ⟨_, h2, _⟩⟩ | ⟨j, v, k, e, _, _, _, _, _, hp, ha⟩
  · rw [h2]; exact ⟨by omega, h.nd, h.dn, h.an, h.bl, by omega⟩
  · rw [h2]; exact ⟨by show (i : Int) ≤ _; omega, h.nd, h.dn, h.an, h.bl, by omega⟩
  · obtain ⟨_, hts, hd, _⟩ := pickIn_some hp
    rw [ha]
    refine ⟨by show (i : Int) ≤ _; omega, h.nd, fun k' e' he' hd' => ?_, fun y hy => ?_, h.bl, by omega⟩
    · change (if k' = k then some { e with tries := e.tries ++ [((j : Int), (i : Int))], lost := false } else D.ts k') = some e' at he'
      split at he'
      · cases he'
        rw [show En.done { e with tries := e.tries ++ [((j : Int), (i : Int))], lost := false } = e.done from rfl, hd] at hd'
        cases hd'
      · exact h.dn k' e' he' hd'
    · obtain ⟨f, hf, hfd, h3, h4⟩ := h.an y hy
      refine ⟨f, ?_, hfd, h3, h4⟩
      show (if y.1 = k then some { e with tries := e.tries ++ [((j : Int), (i : Int))], lost := false } else D.ts y.1) = some f
      rw [if_neg (fun q => by rw [q, hts] at hf; cases hf; rw [hd] at hfd; cases hfd)]
      exact hf
/-- An answer taken. -/
theorem JouI.took (h : JouI i D K) {id : Int} {e e2 : En} {D1 : Pl} {b : List UInt8} (he : D.ts id = some e) (hd : e.done = false) (ht : D1.tick = (i : Int)) (hts : ∀ j, D1.ts j = if j = id then some e2 else D.ts j) (h1 : e2.done = true) (h2 : e2.ans.task = id) (h3 : e2.ans.body = b) (hb : b.length = 2) :
    JouI (i + 1) D1 (K ++ [(id, b)]) := by
  have hk := h.kl
  have hn : id ∉ K.map (·.1) := fun hm => by
    obtain ⟨x, hx, hx1⟩ := List.mem_map.1 hm
    obtain ⟨f, hf, hfd, _⟩ := h.an x hx
    rw [hx1, he] at hf
    cases hf
    rw [hd] at hfd
    cases hfd
  refine ⟨by omega, ?_, fun k e' he' hd' => ?_, fun x hx => ?_, fun x hx => ?_, by rw [List.length_append, List.length_singleton]; omega⟩
  · rw [List.map_append, List.nodup_append]
    refine ⟨h.nd, by simp, fun a ha c hc => ?_⟩
    rw [List.map_singleton, List.mem_singleton] at hc
    rintro rfl
    exact hn (by rw [← show (id, b).1 = id from rfl, ← hc]; exact ha)
  · rw [hts] at he'
    rw [List.map_append, List.mem_append]
    split at he'
    · rename_i q
      exact .inr (by rw [q]; simp)
    · exact .inl (h.dn k e' he' hd')
  · rcases List.mem_append.1 hx with q | q
    · obtain ⟨f, hf, hfd, h4, h5⟩ := h.an x q
      refine ⟨f, ?_, hfd, h4, h5⟩
      rw [hts, if_neg (fun r => hn (by rw [← r]; exact List.mem_map.2 ⟨x, q, rfl⟩))]
      exact hf
    · rw [List.mem_singleton.1 q]
      exact ⟨e2, by rw [hts, if_pos rfl], h1, h2, h3⟩
  · rcases List.mem_append.1 hx with q | q
    · exact h.bl x q
    · rw [List.mem_singleton.1 q]; exact hb
theorem JouI.fin (h : JouI i D K) (ok : POk D) : (ansOf D D.ids).length = K.length ∧ ∀ x ∈ K, ∃ r ∈ ansOf D D.ids, r.task = x.1 ∧ r.body = x.2 := by
  constructor
  · have hp : (D.ids.filter (isDone D)).Perm (K.map (·.1)) := by
      refine (List.perm_ext_iff_of_nodup ?_ h.nd).2 (fun k => ?_)
      · have hn : (D.ids.filter (isDone D)).Pairwise (· < ·) := ok.ord.filter _
        exact hn.imp fun hlt => Int.ne_of_lt hlt
      · rw [List.mem_filter]
        constructor
        · rintro ⟨hk, hd⟩
          obtain ⟨e, he⟩ := (ok.mem k).1 hk
          unfold isDone at hd
          rw [he] at hd
          exact h.dn k e he hd
        · intro hm
          obtain ⟨x, hx, rfl⟩ := List.mem_map.1 hm
          obtain ⟨e, he, hd, _⟩ := h.an x hx
          exact ⟨(ok.mem _).2 ⟨e, he⟩, by unfold isDone; rw [he]; exact hd⟩
    rw [ansOf_eq, hp.length_eq, List.length_map]
  · intro x hx
    obtain ⟨e, he, hd, h1, h2⟩ := h.an x hx
    refine ⟨e.ans, ?_, h1, h2⟩
    unfold ansOf
    exact List.mem_filterMap.2 ⟨x.1, (ok.mem _).2 ⟨e, he⟩, by rw [he]; simp only [hd, if_true]⟩
end
/-- The tasks as they are added. -/
structure JouA (j : Nat) (D : Pl) : Prop where
  len : D.ids.length = j
  lt : ∀ k e, D.ts k = some e → k < (j : Int) ∧ e.done = false
  tck : D.tick ≤ 0
theorem JouA.new (n : Nat) (t : Int) : JouA 0 (newPl n t) := ⟨rfl, (fun _ _ h => by cases h), Int.le_refl _⟩
theorem JouA.add {j : Nat} {D : Pl} (h : JouA j D) (hj : j < 1024) {b : List UInt8} (hb : b.length ≤ 65536) : (D.add (j : Int) b).1 = 0 ∧ JouA (j + 1) (D.add (j : Int) b).2 := by
  have hl := h.len
  have hn : D.ts (j : Int) = none := by
    cases hts : D.ts (j : Int) with
    | none => rfl
    | some e => have := (h.lt _ e hts).1; omega
  unfold Pl.add
  rw [if_neg (by omega), if_neg (by omega), hn]
  refine ⟨rfl, ?_, fun k e he => ?_, h.tck⟩
  · show (insI _ D.ids).length = _
    rw [insI_len, h.len]
  · change (if k = (j : Int) then some (freshE b) else D.ts k) = some e at he
    split at he
    · cases he
      exact ⟨by omega, rfl⟩
    · have := h.lt k e he
      exact ⟨by omega, this.2⟩
theorem JouA.start {j : Nat} {D : Pl} (h : JouA j D) : JouI 0 D [] :=
  ⟨h.tck, List.nodup_nil, (fun k e he hd => by rw [(h.lt k e he).2] at hd; cases hd), (fun _ h => by cases h), (fun _ h => by cases h), Nat.le_refl _⟩
end Go.Proofs.Ytfdacckkdjpjhaa
