/- Package pool and its model side by side. -/
import Derived.Test.YtfdacckkdjpjhaaPmG
namespace Go.Proofs.Ytfdacckkdjpjhaa
open Go.RowKit

/-- A pool, and the model M; O: what both only read. -/
structure Two (W : World) (p : Nat) (Z : Nat → Prop) (D : Pl) (q : Nat) (Y : Nat → Prop) (M : Md) (O : Nat → Prop) : Prop where
  pz : PZ W p Z D
  md : ∃ R, MAt W q Y R M ∧ ∀ b, R b → O b
  zy : ∀ b, Z b → ¬ Y b
  zo : ∀ b, Z b → ¬ O b
  yo : ∀ b, Y b → ¬ O b
  ol : ∀ b, O b → b < W.heap.size
/-- The list of all tries beside the pool, within bounds. -/
structure Sim (n : Nat) (D : Pl) (L : List Tr) : Prop where
  log : Log D L
  tl : TL n D
  ll : L.length ≤ n
section
variable {W W' : World} {p q : Nat} {Z Z' Y Y' O A A' : Nat → Prop} {D D' : Pl} {M M' : Md} {n : Nat} {L : List Tr}
theorem Two.yl (h : Two W p Z D q Y M O) : ∀ b, Y b → b < W.heap.size := by obtain ⟨R, h1, _⟩ := h.md; exact h1.yl
theorem Two.pool (h : Two W p Z D q Y M O) (P : PZ W' p Z' D') (S : DStep Z Z' W W') : Two W' p Z' D' q Y M O := by
  obtain ⟨R, h1, h2⟩ := h.md
  refine ⟨P, ⟨R, h1.other S (fun b hb hz => h.zy b hz hb) (fun b hb hz => h.zo b hz (h2 b hb)), h2⟩, fun b hz hy => ?_, fun b hz ho => ?_, h.yo, fun b hb => Nat.lt_of_lt_of_le (h.ol b hb) S.size⟩
  · exact (S.grow b hz).elim (fun e => h.zy b e hy) (fun e => by have := h.yl b hy; omega)
  · exact (S.grow b hz).elim (fun e => h.zo b e ho) (fun e => by have := h.ol b ho; omega)
theorem Two.model (h : Two W p Z D q Y M O) {R' : Nat → Prop} (P : MAt W' q Y' R' M') (hR : ∀ b, R' b → O b) (S : DStep Y Y' W W') : Two W' p Z D q Y' M' O := by
  refine ⟨h.pz.other S (fun b hz => h.zy b hz), ⟨R', P, hR⟩, fun b hz hy => ?_, h.zo, fun b hy ho => ?_, fun b hb => Nat.lt_of_lt_of_le (h.ol b hb) S.size⟩
  · exact (S.grow b hy).elim (fun e => h.zy b hz e) (fun e => by have := h.pz.zl b hz; omega)
  · exact (S.grow b hy).elim (fun e => h.yo b e ho) (fun e => by have := h.ol b ho; omega)
theorem Two.kept (h : Two W p Z D q Y M O) (hs : W.heap.size ≤ W'.heap.size) (hz : ∀ b, Z b → W'.heap[b]? = W.heap[b]?) (hy : ∀ b, Y b → W'.heap[b]? = W.heap[b]?) (ho : ∀ b, O b → W'.heap[b]? = W.heap[b]?) : Two W' p Z D q Y M O := by
  obtain ⟨R, ⟨_, _, _, _, h1⟩, h2⟩ := h.md
  exact ⟨h.pz.kept hs hz, ⟨R, ⟨_, _, _, _, h1.kept hs hy (fun b hb => ho b (h2 b hb))⟩, h2⟩, h.zy, h.zo, h.yo, fun b hb => Nat.lt_of_lt_of_le (h.ol b hb) hs⟩
theorem Two.later (h : Two W p Z D q Y M O) (B : Below W.heap.size W W') : Two W' p Z D q Y M O :=
  h.kept B.size (fun b hb => B.block b (h.pz.zl b hb)) (fun b hb => B.block b (h.yl b hb)) (fun b hb => B.block b (h.ol b hb))
theorem Two.other (h : Two W p Z D q Y M O) (S : DStep A A' W W') (h1 : ∀ b, Z b → ¬ A b) (h2 : ∀ b, Y b → ¬ A b) (h3 : ∀ b, O b → ¬ A b) : Two W' p Z D q Y M O :=
  h.kept S.size (fun b hb => S.block b (h.pz.zl b hb) (h1 b hb)) (fun b hb => S.block b (h.yl b hb) (h2 b hb)) (fun b hb => S.block b (h.ol b hb) (h3 b hb))
theorem Two.plain (h : Two W p Z D q Y M O) (hD : D' = D) (hM : M' = M) : Two W p Z D' q Y M' O := by rw [hD, hM]; exact h
theorem DStep.wideL (S : DStep A A' W W') (X : Nat → Prop) : DStep (fun b => X b ∨ A b) (fun b => X b ∨ A' b) W W' :=
  ⟨S.os, S.tape, S.output, S.size, fun k hk hX => S.block k hk (fun h => hX (.inr h)), fun k h => h.elim (fun h => .inl (.inl h)) (fun h => (S.grow k h).imp .inr id)⟩
theorem Sim.mono (h : Sim n D L) {m : Nat} (hm : n ≤ m) : Sim m D L := ⟨h.log, h.tl.mono hm, Nat.le_trans h.ll hm⟩
theorem Sim.new (k : Nat) (t : Int) : Sim 0 (newPl k t) [] := ⟨Log.new k t, TL.new k t, Nat.le_refl _⟩
theorem Sim.add (h : Sim n D L) (id : Int) (b : List UInt8) : Sim n (D.add id b).2 L := ⟨h.log.add id b, h.tl.add id b, h.ll⟩
theorem Sim.ask (h : Sim n D L) (ok : POk D) (x t : Int) : Sim (n + 1) (D.ask x t).2 (D.logAsk x t L) := ⟨h.log.ask ok x t, h.tl.ask x t, by
  unfold Pl.logAsk
  split
  · rw [List.length_append]; have := h.ll; simp; omega
  · have := h.ll; omega⟩
theorem Sim.answer (h : Sim n D L) (task worker tr : Int) (b : List UInt8) (t : Int) : Sim n (D.answer task worker tr b t).2.2 L := ⟨h.log.answer task worker tr b t, h.tl.answer task worker tr b t, h.ll⟩
theorem Sim.die (h : Sim n D L) (ok : POk D) (x t : Int) : Sim n (D.die x t).2 (D.logDie x t L) := ⟨h.log.died ok x t, h.tl.die x t, by
  unfold Pl.logDie
  split
  · rw [List.length_map]; exact h.ll
  · exact h.ll⟩
theorem Sim.revive (h : Sim n D L) (x : Int) : Sim n (D.revive x).2 L := ⟨h.log.revive x, h.tl.revive x, h.ll⟩
end
end Go.Proofs.Ytfdacckkdjpjhaa
