/- Package pool and its model, the pool's bodies among what is only read: a law's step, its parts. -/
import Derived.Test.YtfdacckkdjpjhaaPmL
import Derived.Test.YtfdacckkdjpjhaaPmS
namespace Go.Proofs.Ytfdacckkdjpjhaa
open Go.RowKit

/-- A pool, and the model M; O: what both only read, the pool's bodies among it. -/
structure TwX (W : World) (p : Nat) (X : Nat → Prop) (D : Pl) (q : Nat) (Y : Nat → Prop) (M : Md) (O : Nat → Prop) : Prop where
  pz : ∃ R, PAt W p X R D ∧ ∀ b, R b → O b
  md : ∃ R, MAt W q Y R M ∧ ∀ b, R b → O b
  zy : ∀ b, X b → ¬ Y b
  zo : ∀ b, X b → ¬ O b
  yo : ∀ b, Y b → ¬ O b
  ol : ∀ b, O b → b < W.heap.size
/-- What is only read has grown by new blocks. -/
structure Grw (W : World) (O O' : Nat → Prop) : Prop where
  old : ∀ b, O b → O' b
  new : ∀ b, O' b → O b ∨ W.heap.size ≤ b
theorem Grw.refl (W : World) (O : Nat → Prop) : Grw W O O := ⟨fun _ h => h, fun _ h => .inl h⟩
theorem Grw.after {W W' : World} {O O1 O2 : Nat → Prop} (h : Grw W O O1) (g : Grw W' O1 O2) (hs : W.heap.size ≤ W'.heap.size) : Grw W O O2 :=
  ⟨fun b hb => g.old b (h.old b hb), fun b hb => (g.new b hb).elim (h.new b) (fun e => .inr (Nat.le_trans hs e))⟩
section
variable {W W' : World} {p q : Nat} {X X' Y Y' O A A' : Nat → Prop} {D D' : Pl} {M M' : Md}
theorem TwX.ok (h : TwX W p X D q Y M O) : POk D := by obtain ⟨R, h1, _⟩ := h.pz; exact h1.ok
theorem TwX.xl (h : TwX W p X D q Y M O) : ∀ b, X b → b < W.heap.size := by obtain ⟨R, h1, _⟩ := h.pz; exact h1.xl
theorem TwX.yl (h : TwX W p X D q Y M O) : ∀ b, Y b → b < W.heap.size := by obtain ⟨R, h1, _⟩ := h.md; exact h1.yl
theorem TwX.pool (h : TwX W p X D q Y M O) {R R' : Nat → Prop} (P : PAt W' p X' R' D') (S : DStep X X' W W') (hR : ∀ b, R b → O b) (hr : ∀ b, R' b → R b ∨ W.heap.size ≤ b) : ∃ O', Grw W O O' ∧ TwX W' p X' D' q Y M O' := by
  obtain ⟨R2, h1, h2⟩ := h.md
  have hs := S.size
  have P' := P
  obtain ⟨_, _, _, _, _, _, _, _, px⟩ := P'
  refine ⟨fun b => O b ∨ R' b, ⟨fun _ h => .inl h, fun b hb => hb.elim .inl (fun e => (hr b e).imp (hR b) id)⟩, ⟨R', P, fun _ h => .inr h⟩, ⟨R2, h1.other S (fun b hb hz => h.zy b hz hb) (fun b hb hz => h.zo b hz (h2 b hb)), fun b hb => .inl (h2 b hb)⟩, fun b hz hy => ?_, fun b hz ho => ?_, fun b hy ho => ?_, fun b hb => ?_⟩
  · exact (S.grow b hz).elim (fun e => h.zy b e hy) (fun e => by have := h.yl b hy; omega)
  · rcases ho with ho | ho
    · exact (S.grow b hz).elim (fun e => h.zo b e ho) (fun e => by have := h.ol b ho; omega)
    · exact px.sep b hz ho
  · rcases ho with ho | ho
    · exact h.yo b hy ho
    · exact (hr b ho).elim (fun e => h.yo b hy (hR b e)) (fun e => by have := h.yl b hy; omega)
  · rcases hb with hb | hb
    · exact Nat.lt_of_lt_of_le (h.ol b hb) hs
    · exact px.rl b hb
theorem TwX.model (h : TwX W p X D q Y M O) {R' : Nat → Prop} (P : MAt W' q Y' R' M') (hR : ∀ b, R' b → O b) (S : DStep Y Y' W W') : TwX W' p X D q Y' M' O := by
  obtain ⟨R, h1, h2⟩ := h.pz
  refine ⟨⟨R, h1.other S (fun b hz => h.zy b hz) (fun b hb hy => h.yo b hy (h2 b hb)), h2⟩, ⟨R', P, hR⟩, fun b hz hy => ?_, h.zo, fun b hy ho => ?_, fun b hb => Nat.lt_of_lt_of_le (h.ol b hb) S.size⟩
  · exact (S.grow b hy).elim (fun e => h.zy b hz e) (fun e => by have := h.xl b hz; omega)
  · exact (S.grow b hy).elim (fun e => h.yo b e ho) (fun e => by have := h.ol b ho; omega)
theorem TwX.kept (h : TwX W p X D q Y M O) (hs : W.heap.size ≤ W'.heap.size) (hz : ∀ b, X b → W'.heap[b]? = W.heap[b]?) (hy : ∀ b, Y b → W'.heap[b]? = W.heap[b]?) (ho : ∀ b, O b → W'.heap[b]? = W.heap[b]?) : TwX W' p X D q Y M O := by
  obtain ⟨R, ⟨_, _, _, _, h1⟩, h2⟩ := h.md
  obtain ⟨R3, ⟨_, _, _, _, _, _, _, _, h3⟩, h4⟩ := h.pz
  exact ⟨⟨R3, ⟨_, _, _, _, _, _, _, _, h3.kept hs hz (fun b hb => ho b (h4 b hb))⟩, h4⟩, ⟨R, ⟨_, _, _, _, h1.kept hs hy (fun b hb => ho b (h2 b hb))⟩, h2⟩, h.zy, h.zo, h.yo, fun b hb => Nat.lt_of_lt_of_le (h.ol b hb) hs⟩
theorem TwX.later (h : TwX W p X D q Y M O) (B : Below W.heap.size W W') : TwX W' p X D q Y M O :=
  h.kept B.size (fun b hb => B.block b (h.xl b hb)) (fun b hb => B.block b (h.yl b hb)) (fun b hb => B.block b (h.ol b hb))
theorem TwX.other (h : TwX W p X D q Y M O) (S : DStep A A' W W') (h1 : ∀ b, X b → ¬ A b) (h2 : ∀ b, Y b → ¬ A b) (h3 : ∀ b, O b → ¬ A b) : TwX W' p X D q Y M O :=
  h.kept S.size (fun b hb => S.block b (h.xl b hb) (h1 b hb)) (fun b hb => S.block b (h.yl b hb) (h2 b hb)) (fun b hb => S.block b (h.ol b hb) (h3 b hb))
/-- What is only read grows. -/
theorem TwX.grow (h : TwX W p X D q Y M O) {O' : Nat → Prop} (h1 : ∀ b, O b → O' b) (h2 : ∀ b, O' b → O b ∨ (¬ X b ∧ ¬ Y b ∧ b < W.heap.size)) : TwX W p X D q Y M O' := by
  obtain ⟨R, hm, hr⟩ := h.md
  obtain ⟨R3, h3, h4⟩ := h.pz
  exact ⟨⟨R3, h3, fun b hb => h1 b (h4 b hb)⟩, ⟨R, hm, fun b hb => h1 b (hr b hb)⟩, h.zy, fun b hz ho => (h2 b ho).elim (h.zo b hz) (fun e => e.1 hz), fun b hy ho => (h2 b ho).elim (h.yo b hy) (fun e => e.2.1 hy), fun b hb => (h2 b hb).elim (h.ol b) (fun e => e.2.2)⟩
theorem TwX.read (h : TwX W p X D q Y M O) (S : DStep (fun b => X b ∨ Y b) A' W W') : ∀ b, O b → W'.heap[b]? = W.heap[b]? := fun b hb => S.block b (h.ol b hb) (fun hz => hz.elim (fun e => h.zo b e hb) (fun e => h.yo b e hb))
end
/-- A pool and its model, an operation in block ob beside them, its body among what is only read. -/
structure StX (W : World) (p : Nat) (Z : Nat → Prop) (D : Pl) (q : Nat) (Y : Nat → Prop) (M : Md) (O : Nat → Prop) (ob : Nat) (x : PV) : Prop where
  two : TwX W p Z D q Y M O
  blk : W.heap[ob]? = some (.cells x.cells.toArray 69)
  nz : ¬ Z ob
  ny : ¬ Y ob
  rd : Rv W x.bv x.o.b.length (x.o.b.map vB)
  bo : ∀ g, x.bv.ownBlock = some g → O g
section
variable {W W' : World} {p q ob : Nat} {Z Z' Y Y' O : Nat → Prop} {D D' : Pl} {M M' : Md} {x : PV}
theorem StX.c (h : StX W p Z D q Y M O ob x) (j : Nat) (v : Value) (hv : x.cells[j]? = some v) : W.cell? ⟨ob, j, none⟩ = some v := by
  have := h.blk
  unfold World.cell?
  rw [this]
  simpa using hv
theorem StX.lt (h : StX W p Z D q Y M O ob x) : ob < W.heap.size := (Array.getElem?_eq_some_iff.1 h.blk).1
theorem StX.pool (h : StX W p Z D q Y M O ob x) {R R' : Nat → Prop} (P : PAt W' p Z' R' D') (S : DStep Z Z' W W') (hR : ∀ b, R b → O b) (hr : ∀ b, R' b → R b ∨ W.heap.size ≤ b) : ∃ O', Grw W O O' ∧ StX W' p Z' D' q Y M O' ob x := by
  obtain ⟨O', G, T⟩ := h.two.pool P S hR hr
  exact ⟨O', G, T, (S.block ob h.lt h.nz).trans h.blk, fun hz => (S.grow ob hz).elim h.nz (fun e => by have := h.lt; omega), h.ny,
    rvSame h.rd (fun g hg hv => S.block g hg (fun hz => h.two.zo g hz (h.bo g hv))), fun g hg => G.old g (h.bo g hg)⟩
theorem StX.model (h : StX W p Z D q Y M O ob x) {R' : Nat → Prop} (P : MAt W' q Y' R' M') (hR : ∀ b, R' b → O b) (S : DStep Y Y' W W') : StX W' p Z D q Y' M' O ob x :=
  ⟨h.two.model P hR S, (S.block ob h.lt h.ny).trans h.blk, h.nz, fun hz => (S.grow ob hz).elim h.ny (fun e => by have := h.lt; omega),
    rvSame h.rd (fun g hg hv => S.block g hg (fun hz => h.two.yo g hz (h.bo g hv))), h.bo⟩
theorem StX.later (h : StX W p Z D q Y M O ob x) (B : Below W.heap.size W W') : StX W' p Z D q Y M O ob x :=
  ⟨h.two.later B, (B.block ob h.lt).trans h.blk, h.nz, h.ny, h.rd.below B, h.bo⟩
theorem StX.off (h : StX W p Z D q Y M O ob x) : Off x.bv Z := fun b hb hz => h.two.zo b hz (h.bo b hb)
theorem StX.offY (h : StX W p Z D q Y M O ob x) : ∀ g, x.bv.ownBlock = some g → ¬ Y g ∧ g < W.heap.size := fun b hb => ⟨fun hy => h.two.yo b hy (h.bo b hb), h.two.ol b (h.bo b hb)⟩
end
section
variable {p q ob n : Nat} {Z Y O : Nat → Prop} {D D' : Pl} {M : Md} {L : List Tr} {x : PV}
theorem stx_add (id : Int) (w : World) (h : StX w p Z D q Y M O ob x) (hid : id ≤ 9223372036854775807) (hb : x.o.b.length ≤ 1000000000) :
    Calls Try.prog 13 #[.pointer (some ⟨p, 0, none⟩), .agg #[.int .i64 id, x.bv]] w fun e w' => e = .returned (.int .i64 (D.add id x.o.b).1) ∧ ∃ Z' O', Grw w O O' ∧ StX w' p Z' (D.add id x.o.b).2 q Y M O' ob x ∧ DStep (fun b => Z b ∨ Y b) (fun b => Z' b ∨ Y b) w w' := by
  obtain ⟨R, hp, hR⟩ := h.two.pz
  refine (add_any id x.bv x.o.b w hp hid h.rd hb).mono ?_
  rintro e w' ⟨rfl, Z', R', P, S, hr⟩
  obtain ⟨O', G, h'⟩ := h.pool P S hR hr
  exact ⟨rfl, Z', O', G, h', S.wide Y⟩
theorem stx_madd (id : Int) (w : World) (h : StX w p Z D' q Y (mdOf D L) O ob x) (ok : POk D) (hb : x.o.b.length ≤ 1000000000) :
    Calls Try.prog 35 #[.pointer (some ⟨q, 0, none⟩), .int .i64 id, x.bv] w fun e w' => e = .returned (.int .i64 (D.add id x.o.b).1) ∧ ∃ Y', StX w' p Z D' q Y' (mdOf (D.add id x.o.b).2 L) O ob x ∧ DStep (fun b => Z b ∨ Y b) (fun b => Z b ∨ Y' b) w w' := by
  obtain ⟨R, hm, hr⟩ := h.two.md
  refine (madd_any id x.bv x.o.b w hm ok h.rd hb h.offY).mono ?_
  rintro e w' ⟨rfl, Y', R', P, hR, S⟩
  exact ⟨rfl, Y', h.model P (fun b hb => (hR b hb).elim (hr b) (h.bo b)) S, S.wideL Z⟩
theorem stx_ask (i t : Int) (w : World) (h : StX w p Z D q Y M O ob x) (hn : TL n D) (hn1 : n ≤ 1000000000) :
    Calls Try.prog 15 #[.pointer (some ⟨p, 0, none⟩), .int .i64 i, .int .i64 t] w fun e w' => ∃ bv Z', e = .returned (.tuple #[.agg #[.int .i64 (D.ask i t).1.id, bv], .int .i64 (D.ask i t).1.n, .bool (D.ask i t).1.is, .int .i64 (D.ask i t).1.err]) ∧
      w'.ownsRow w.heap.size 5 1 bv (D.ask i t).1.body.length ((D.ask i t).1.body.map vB) ∧ (∃ O', Grw w O O' ∧ StX w' p Z' (D.ask i t).2 q Y M O' ob x) ∧ DStep (fun b => Z b ∨ Y b) (fun b => Z' b ∨ Y b) w w' ∧ Off bv Z' := by
  obtain ⟨R, hp, hR⟩ := h.two.pz
  refine (ask_any i t w hp (fun k e hk => Nat.le_trans (hn k e hk) hn1)).mono ?_
  rintro e w' ⟨bv, Z', rfl, hO, P, S, hoff⟩
  exact ⟨bv, Z', rfl, hO, h.pool P S hR (fun _ h => .inl h), S.wide Y, hoff⟩
theorem stx_mask (i t : Int) (w : World) (h : StX w p Z D' q Y (mdOf D L) O ob x) (ok : POk D) (s : Sim n D L) (hn : n ≤ 1000000) :
    Calls Try.prog 36 #[.pointer (some ⟨q, 0, none⟩), .int .i64 i, .int .i64 t] w fun e w' => e = .returned (.tuple #[.int .i64 (D.ask i t).1.id, .int .i64 (D.ask i t).1.n, .bool (D.ask i t).1.is, .int .i64 (D.ask i t).1.err]) ∧
      ∃ Y', StX w' p Z D' q Y' (mdOf (D.ask i t).2 (D.logAsk i t L)) O ob x ∧ DStep (fun b => Z b ∨ Y b) (fun b => Z b ∨ Y' b) w w' := by
  obtain ⟨R, hm, hr⟩ := h.two.md
  refine (mask_any i t w hm ok s.log s.ll s.tl hn).mono ?_
  rintro e w' ⟨rfl, Y', P, S⟩
  exact ⟨rfl, Y', h.model P hr S, S.wideL Z⟩
theorem stx_answer (task worker tr t : Int) (w : World) (h : StX w p Z D q Y M O ob x) (htr : -9223372036854775808 ≤ tr ∧ tr ≤ 9223372036854775807) (hb : x.o.b.length ≤ 1000000000) :
    Calls Try.prog 16 #[.pointer (some ⟨p, 0, none⟩), .agg #[.int .i64 task, .int .i64 worker, .int .i64 tr, x.bv], .int .i64 t] w fun e w' => e = .returned (.tuple #[.bool (D.answer task worker tr x.o.b t).1, .int .i64 (D.answer task worker tr x.o.b t).2.1]) ∧
      ∃ Z' O', Grw w O O' ∧ StX w' p Z' (D.answer task worker tr x.o.b t).2.2 q Y M O' ob x ∧ DStep (fun b => Z b ∨ Y b) (fun b => Z' b ∨ Y b) w w' := by
  obtain ⟨R, hp, hR⟩ := h.two.pz
  refine (answer_any task worker tr x.bv x.o.b t w hp htr h.rd hb h.off).mono ?_
  rintro e w' ⟨rfl, R', P, S, hr⟩
  obtain ⟨O', G, h'⟩ := h.pool P S hR hr
  exact ⟨rfl, Z, O', G, h', S.wide Y⟩
theorem stx_manswer (task worker tr t : Int) (w : World) (h : StX w p Z D' q Y (mdOf D L) O ob x) (ok : POk D) (s : Sim n D L) (hn : n ≤ 1000000) (hb : x.o.b.length ≤ 1000000000) :
    Calls Try.prog 37 #[.pointer (some ⟨q, 0, none⟩), .int .i64 task, .int .i64 worker, .int .i64 tr, x.bv, .int .i64 t] w fun e w' => e = .returned (.tuple #[.bool (D.answer task worker tr x.o.b t).1, .int .i64 (D.answer task worker tr x.o.b t).2.1]) ∧
      ∃ Y', StX w' p Z D' q Y' (mdOf (D.answer task worker tr x.o.b t).2.2 L) O ob x ∧ DStep (fun b => Z b ∨ Y b) (fun b => Z b ∨ Y' b) w w' := by
  obtain ⟨R, hm, hr⟩ := h.two.md
  refine (manswer_any task worker tr x.bv x.o.b t w hm ok s.log (by have := s.ll; omega) h.rd hb h.offY).mono ?_
  rintro e w' ⟨rfl, R', P, hR, S⟩
  exact ⟨rfl, Y, h.model P (fun b hb => (hR b hb).elim (hr b) (h.bo b)) S, S.wideL Z⟩
theorem stx_die (i t : Int) (w : World) (h : StX w p Z D q Y M O ob x) :
    Calls Try.prog 38 #[.pointer (some ⟨p, 0, none⟩), .int .i64 i, .int .i64 t] w fun e w' => e = .returned (.int .i64 (D.die i t).1) ∧ ∃ Z' O', Grw w O O' ∧ StX w' p Z' (D.die i t).2 q Y M O' ob x ∧ DStep (fun b => Z b ∨ Y b) (fun b => Z' b ∨ Y b) w w' := by
  obtain ⟨R, hp, hR⟩ := h.two.pz
  refine (die_any i t w hp).mono ?_
  rintro e w' ⟨rfl, P, S⟩
  obtain ⟨O', G, h'⟩ := h.pool P S hR (fun _ h => .inl h)
  exact ⟨rfl, Z, O', G, h', S.wide Y⟩
theorem stx_mdie (i t : Int) (w : World) (h : StX w p Z D' q Y (mdOf D L) O ob x) (s : Sim n D L) (hn : n ≤ 1000000) :
    Calls Try.prog 39 #[.pointer (some ⟨q, 0, none⟩), .int .i64 i, .int .i64 t] w fun e w' => e = .returned (.int .i64 (D.die i t).1) ∧ ∃ Y', StX w' p Z D' q Y' (mdOf (D.die i t).2 (D.logDie i t L)) O ob x ∧ DStep (fun b => Z b ∨ Y b) (fun b => Z b ∨ Y' b) w w' := by
  obtain ⟨R, hm, hr⟩ := h.two.md
  refine (mdie_any i t w hm (by have := s.ll; show L.length ≤ _; omega)).mono ?_
  rw [mdOf_die]
  rintro e w' ⟨rfl, P, S⟩
  exact ⟨rfl, Y, h.model P hr S, S.wideL Z⟩
theorem stx_revive (i : Int) (w : World) (h : StX w p Z D q Y M O ob x) :
    Calls Try.prog 40 #[.pointer (some ⟨p, 0, none⟩), .int .i64 i] w fun e w' => e = .returned (.int .i64 (D.revive i).1) ∧ ∃ Z' O', Grw w O O' ∧ StX w' p Z' (D.revive i).2 q Y M O' ob x ∧ DStep (fun b => Z b ∨ Y b) (fun b => Z' b ∨ Y b) w w' := by
  obtain ⟨R, hp, hR⟩ := h.two.pz
  refine (revive_any i w hp).mono ?_
  rintro e w' ⟨rfl, P, S⟩
  obtain ⟨O', G, h'⟩ := h.pool P S hR (fun _ h => .inl h)
  exact ⟨rfl, Z, O', G, h', S.wide Y⟩
theorem stx_mrevive (i : Int) (w : World) (h : StX w p Z D' q Y (mdOf D L) O ob x) :
    Calls Try.prog 41 #[.pointer (some ⟨q, 0, none⟩), .int .i64 i] w fun e w' => e = .returned (.int .i64 (D.revive i).1) ∧ ∃ Y', StX w' p Z D' q Y' (mdOf (D.revive i).2 L) O ob x ∧ DStep (fun b => Z b ∨ Y b) (fun b => Z b ∨ Y' b) w w' := by
  obtain ⟨R, hm, hr⟩ := h.two.md
  refine (mrevive_any i w hm).mono ?_
  rw [mdOf_revive]
  rintro e w' ⟨rfl, P, S⟩
  exact ⟨rfl, Y, h.model P hr S, S.wideL Z⟩
end
/-- What a step returns. -/
def StepPostX (n : Nat) (w : World) (p : Nat) (Z : Nat → Prop) (q : Nat) (Y O : Nat → Prop) (e : Ending) (w' : World) : Prop :=
  e = .returned (.bool true) ∧ ∃ Z' Y' D' L' O', Grw w O O' ∧ TwX w' p Z' D' q Y' (mdOf D' L') O' ∧ Sim (n + 1) D' L' ∧ DStep (fun b => Z b ∨ Y b) (fun b => Z' b ∨ Y' b) w w'
end Go.Proofs.Ytfdacckkdjpjhaa
