/- Package pool: the contracts in one form, and the example of the section. -/
import Derived.Test.YtfdacckkdjpjhaaPlM
import Derived.Test.YtfdacckkdjpjhaaPlL
namespace Go.Proofs.Ytfdacckkdjpjhaa
open Go.RowKit

/-- The kinds of a pool's blocks. -/
def plKind (k : Option (Option TypeId)) : Bool := k == some (some 98) || k == some none || k == some (some 105) || k == some (some 103) || k == some (some 112)
/-- A pool and what it lies in. -/
structure PL (W : World) (p : Nat) (X : Nat → Prop) (D : Pl) : Prop where
  at' : ∃ R, PAt W p X R D
  kind : ∀ b, X b → plKind (kindAt W b) = true
/-- No task has more than n tries. -/
def TL (n : Nat) (D : Pl) : Prop := ∀ k e, D.ts k = some e → e.tries.length ≤ n
section
variable {W W' : World} {p : Nat} {X X' Z Z' R : Nat → Prop} {D : Pl}
theorem PX.min {mb : Nat} {wv : Value} {F : Int → Option Value} {ks : List Int} {B : Int → Nat} {TV BV AV : Int → Value} (h : PX W p mb wv F ks B TV BV AV X R D) :
    ∃ X1, PX W p mb wv F ks B TV BV AV X1 R D ∧ (∀ b, X1 b → X b) ∧ ∀ b, X1 b → plKind (kindAt W b) = true := by
  refine ⟨fun b => b = p ∨ b = mb ∨ wv.ownBlock = some b ∨ ∃ k e, D.ts k = some e ∧ (b = B k ∨ (TV k).ownBlock = some b),
    ⟨h.blk, h.map, h.row, h.emp, fun k e hk => ⟨(h.en k e hk).1, (h.en k e hk).2.1, .inr (.inr (.inr ⟨k, e, hk, .inl rfl⟩))⟩, fun k e hk => ⟨(h.tr k e hk).1, fun b hb => .inr (.inr (.inr ⟨k, e, hk, .inr hb⟩))⟩, h.bd, h.inj, h.tsep, .inl rfl, .inr (.inl rfl), fun b hb => .inr (.inr (.inl hb)), fun b hb => h.sep b ?_, fun b hb => h.xl b ?_, h.rl, h.ok⟩, fun b hb => ?_, fun b hb => ?_⟩
  rotate_left 3
  · rcases hb with rfl | rfl | hb | ⟨k, e, hk, rfl | hb⟩
    · rw [h.kp]; decide
    · rw [h.km]; decide
    · rw [h.kw hb]; decide
    · rw [h.ke hk]; decide
    · rw [h.kt hk hb]; decide
  all_goals
    rcases hb with rfl | rfl | hb | ⟨k, e, hk, rfl | hb⟩
    · exact h.xp
    · exact h.xm
    · exact h.xw b hb
    · exact (h.en k e hk).2.2
    · exact (h.tr k e hk).2 b hb
/-- After a step. -/
theorem PAt.pl (h : PAt W' p X' R D) (S : DStep X X' W W') : ∃ X1, PL W' p X1 D ∧ DStep X X1 W W' := by
  obtain ⟨_, _, _, _, _, _, _, _, h⟩ := h
  obtain ⟨X1, h1, h2, h3⟩ := h.min
  exact ⟨X1, ⟨⟨R, _, _, _, _, _, _, _, _, h1⟩, h3⟩, S.os, S.tape, S.output, S.size, S.block, fun k hk => S.grow k (h2 k hk)⟩
theorem PL.ok (h : PL W p X D) : POk D := by obtain ⟨⟨R, h⟩, _⟩ := h; exact h.ok
theorem PL.xl (h : PL W p X D) : ∀ b, X b → b < W.heap.size := by obtain ⟨⟨R, h⟩, _⟩ := h; exact h.xl
theorem PL.later (h : PL W p X D) (b : Below W.heap.size W W') : PL W' p X D := by
  obtain ⟨⟨R, h1⟩, h2⟩ := h
  refine ⟨⟨R, h1.later b⟩, fun x hx => ?_⟩
  have := h2 x hx
  unfold kindAt at this ⊢
  rw [b.block x (h1.xl x hx)]
  exact this
/-- Where another thing has turned. -/
theorem PL.off {base size n : Nat} {e : TypeId} {v : Value} {xs : List Value} (h : PL W p X D) (hO : W.ownsRow base e size v n xs) (he : plKind (some (some e)) = false) : Off v X := fun b hb hx => by
  have h1 := h.kind b hx
  rw [own_kind hO hb, he] at h1
  cases h1
theorem PL.offK (h : PL W p X D) {v : Value} {e : TypeId} (hk : ∀ b, v.ownBlock = some b → kindAt W b = some (some e)) (he : plKind (some (some e)) = false) : Off v X := fun b hb hx => by
  have h1 := h.kind b hx
  rw [hk b hb, he] at h1
  cases h1
theorem pl_new (n : Nat) (t : Int) (hn : 1 ≤ n ∧ n ≤ 64) (ht : 1 ≤ t ∧ t ≤ 1099511627776) (w : World) :
    Calls Try.prog 12 #[.int .i64 (n : Int), .int .i64 t] w fun e w' => ∃ p X, e = .returned (.tuple #[.pointer (some ⟨p, 0, none⟩), .int .i64 0]) ∧ PL w' p X (newPl n t) ∧ (∀ b, X b → w.heap.size ≤ b) ∧ Below w.heap.size w w' := by
  refine (pnew_any n t hn ht w).mono ?_
  rintro e w' ⟨p, X, rfl, h, hX, B⟩
  obtain ⟨_, _, _, _, _, _, _, _, h⟩ := h
  obtain ⟨X1, h1, h2, h3⟩ := h.min
  exact ⟨p, X1, rfl, ⟨⟨_, _, _, _, _, _, _, _, _, h1⟩, h3⟩, fun b hb => hX b (h2 b hb), B⟩
theorem pl_add (id : Int) (bv : Value) (b : List UInt8) (w : World) (h : PL w p X D) (hid : id ≤ 9223372036854775807) (hb : Rv w bv b.length (b.map vB)) (hbl : b.length ≤ 1000000000) :
    Calls Try.prog 13 #[.pointer (some ⟨p, 0, none⟩), .agg #[.int .i64 id, bv]] w fun e w' => e = .returned (.int .i64 (D.add id b).1) ∧ ∃ X', PL w' p X' (D.add id b).2 ∧ DStep X X' w w' := by
  obtain ⟨⟨R, h⟩, _⟩ := h
  refine (add_any id bv b w h hid hb hbl).mono ?_
  rintro e w' ⟨rfl, X', R', h1, S, _⟩
  exact ⟨rfl, h1.pl S⟩
theorem pl_ask (x t : Int) (w : World) (h : PL w p X D) {n : Nat} (hn : TL n D) (hn1 : n ≤ 1000000000) :
    Calls Try.prog 15 #[.pointer (some ⟨p, 0, none⟩), .int .i64 x, .int .i64 t] w fun e w' => ∃ bv X', e = .returned (.tuple #[.agg #[.int .i64 (D.ask x t).1.id, bv], .int .i64 (D.ask x t).1.n, .bool (D.ask x t).1.is, .int .i64 (D.ask x t).1.err]) ∧
      w'.ownsRow w.heap.size 5 1 bv (D.ask x t).1.body.length ((D.ask x t).1.body.map vB) ∧ PL w' p X' (D.ask x t).2 ∧ DStep X X' w w' := by
  obtain ⟨⟨R, h⟩, _⟩ := h
  refine (ask_any x t w h (fun k e hk => Nat.le_trans (hn k e hk) hn1)).mono ?_
  rintro e w' ⟨bv, X', rfl, hO, h1, S, _⟩
  obtain ⟨X1, h2, S1⟩ := h1.pl S
  exact ⟨bv, X1, rfl, hO, h2, S1⟩
theorem pl_answer (task worker tr : Int) (bv : Value) (b : List UInt8) (t : Int) (w : World) (h : PL w p X D) (htr : -9223372036854775808 ≤ tr ∧ tr ≤ 9223372036854775807) (hb : Rv w bv b.length (b.map vB)) (hbl : b.length ≤ 1000000000) (hsp : Off bv X) :
    Calls Try.prog 16 #[.pointer (some ⟨p, 0, none⟩), .agg #[.int .i64 task, .int .i64 worker, .int .i64 tr, bv], .int .i64 t] w fun e w' => e = .returned (.tuple #[.bool (D.answer task worker tr b t).1, .int .i64 (D.answer task worker tr b t).2.1]) ∧
      ∃ X', PL w' p X' (D.answer task worker tr b t).2.2 ∧ DStep X X' w w' := by
  obtain ⟨⟨R, h⟩, _⟩ := h
  refine (answer_any task worker tr bv b t w h htr hb hbl hsp).mono ?_
  rintro e w' ⟨rfl, R', h1, S, _⟩
  exact ⟨rfl, h1.pl S⟩
theorem pl_die (x t : Int) (w : World) (h : PL w p X D) :
    Calls Try.prog 38 #[.pointer (some ⟨p, 0, none⟩), .int .i64 x, .int .i64 t] w fun e w' => e = .returned (.int .i64 (D.die x t).1) ∧ ∃ X', PL w' p X' (D.die x t).2 ∧ DStep X X' w w' := by
  obtain ⟨⟨R, h⟩, _⟩ := h
  refine (die_any x t w h).mono ?_
  rintro e w' ⟨rfl, h1, S⟩
  exact ⟨rfl, h1.pl S⟩
theorem pl_revive (x : Int) (w : World) (h : PL w p X D) :
    Calls Try.prog 40 #[.pointer (some ⟨p, 0, none⟩), .int .i64 x] w fun e w' => e = .returned (.int .i64 (D.revive x).1) ∧ ∃ X', PL w' p X' (D.revive x).2 ∧ DStep X X' w w' := by
  obtain ⟨⟨R, h⟩, _⟩ := h
  refine (revive_any x w h).mono ?_
  rintro e w' ⟨rfl, h1, S⟩
  exact ⟨rfl, h1.pl S⟩
theorem pl_open (w : World) (h : PL w p X D) :
    Calls Try.prog 30 #[.pointer (some ⟨p, 0, none⟩)] w fun e w' => ∃ v, e = .returned v ∧ w'.ownsRow w.heap.size 3 1 v (opn D D.ids).length ((opn D D.ids).map (Value.int .i64)) ∧ Below w.heap.size w w' := by
  obtain ⟨⟨R, h⟩, _⟩ := h
  exact open_any w h
theorem pl_done (w : World) (h : PL w p X D) : Calls Try.prog 22 #[.pointer (some ⟨p, 0, none⟩)] w (DonePost w (ansOf D D.ids)) := by
  obtain ⟨⟨R, h⟩, _⟩ := h
  exact done_any w h
end
theorem TL.mono {m n : Nat} {D : Pl} (h : TL m D) (hn : m ≤ n) : TL n D := fun k e hk => Nat.le_trans (h k e hk) hn
theorem TL.new (n : Nat) (t : Int) : TL 0 (newPl n t) := fun _ _ h => by cases h
theorem TL.set {n : Nat} {D D' : Pl} (h : TL n D) {k : Int} {e : En} (hd : D'.ts = fun j => if j = k then some e else D.ts j) (he : e.tries.length ≤ n) : TL n D' := fun j f hf => by
  rw [hd] at hf
  change (if j = k then some e else D.ts j) = some f at hf
  split at hf
  · cases hf; exact he
  · exact h j f hf
theorem TL.add {n : Nat} {D : Pl} (h : TL n D) (id : Int) (b : List UInt8) : TL n (D.add id b).2 := by
  unfold Pl.add
  split
  · exact h
  · split
    · exact h
    · split
      · exact h
      · exact h.set (e := freshE b) rfl (Nat.zero_le _)
theorem TL.ask {n : Nat} {D : Pl} (h : TL n D) (x t : Int) : TL (n + 1) (D.ask x t).2 := by
  have h' := h.mono (Nat.le_succ n)
  unfold Pl.ask
  split
  · exact h'
  · split
    · exact h'
    · split
      · exact h'
      · split
        · exact h'
        · split
          · exact h'
          · rename_i k e hp
            obtain ⟨_, hts, _, _⟩ := pickIn_some hp
            refine TL.set (D := D) h' (k := k) (e := _) rfl ?_
            show (e.tries ++ _).length ≤ n + 1
            rw [List.length_append, List.length_singleton]
            exact Nat.succ_le_succ (h k e hts)
theorem TL.answer {n : Nat} {D : Pl} (h : TL n D) (task worker tr : Int) (b : List UInt8) (t : Int) : TL n (D.answer task worker tr b t).2.2 := by
  unfold Pl.answer
  split
  · exact h
  · split
    · exact h
    · rename_i e he
      split
      · exact h
      · split
        · exact h
        · split
          · exact h
          · exact TL.set (D := D) h (k := task) (e := { e with done := true, ans := ⟨task, worker, tr, b⟩ }) rfl (h task e he)
theorem TL.die {n : Nat} {D : Pl} (h : TL n D) (x t : Int) : TL n (D.die x t).2 := by
  unfold Pl.die
  split
  · exact h
  · split
    · exact h
    · split
      · exact h
      · intro k e hk
        rw [lose_eq] at hk
        change (D.ts k).map _ = some e at hk
        cases hts : D.ts k with
        | none => rw [hts] at hk; cases hk
        | some f => rw [hts] at hk; cases hk; exact h k f hts
theorem TL.revive {n : Nat} {D : Pl} (h : TL n D) (x : Int) : TL n (D.revive x).2 := by
  unfold Pl.revive
  split
  · exact h
  · split
    · exact h
    · split
      · exact h
      · exact h
end Go.Proofs.Ytfdacckkdjpjhaa
