/- Package pool and its model: a law's step, its parts. -/
import Derived.Test.YtfdacckkdjpjhaaPmL
import Derived.Test.YtfdacckkdjpjhaaPmS
namespace Go.Proofs.Ytfdacckkdjpjhaa
open Go.RowKit

/-- A pool and its model, an operation in block ob beside them, its body among what is only read. -/
structure StS (W : World) (p : Nat) (Z : Nat → Prop) (D : Pl) (q : Nat) (Y : Nat → Prop) (M : Md) (O : Nat → Prop) (ob : Nat) (x : PV) : Prop where
  two : Two W p Z D q Y M O
  blk : W.heap[ob]? = some (.cells x.cells.toArray 69)
  nz : ¬ Z ob
  ny : ¬ Y ob
  rd : Rv W x.bv x.o.b.length (x.o.b.map vB)
  bo : ∀ g, x.bv.ownBlock = some g → O g
section
variable {W W' : World} {p q ob : Nat} {Z Z' Y Y' O : Nat → Prop} {D D' : Pl} {M M' : Md} {x : PV}
theorem StS.c (h : StS W p Z D q Y M O ob x) (j : Nat) (v : Value) (hv : x.cells[j]? = some v) : W.cell? ⟨ob, j, none⟩ = some v := by
  have := h.blk
  unfold World.cell?
  rw [this]
  simpa using hv
theorem StS.lt (h : StS W p Z D q Y M O ob x) : ob < W.heap.size := (Array.getElem?_eq_some_iff.1 h.blk).1
theorem StS.pool (h : StS W p Z D q Y M O ob x) (P : PZ W' p Z' D') (S : DStep Z Z' W W') : StS W' p Z' D' q Y M O ob x :=
  ⟨h.two.pool P S, (S.block ob h.lt h.nz).trans h.blk, fun hz => (S.grow ob hz).elim h.nz (fun e => by have := h.lt; omega), h.ny,
    rvSame h.rd (fun g hg hv => S.block g hg (fun hz => h.two.zo g hz (h.bo g hv))), h.bo⟩
theorem StS.model (h : StS W p Z D q Y M O ob x) {R' : Nat → Prop} (P : MAt W' q Y' R' M') (hR : ∀ b, R' b → O b) (S : DStep Y Y' W W') : StS W' p Z D q Y' M' O ob x :=
  ⟨h.two.model P hR S, (S.block ob h.lt h.ny).trans h.blk, h.nz, fun hz => (S.grow ob hz).elim h.ny (fun e => by have := h.lt; omega),
    rvSame h.rd (fun g hg hv => S.block g hg (fun hz => h.two.yo g hz (h.bo g hv))), h.bo⟩
theorem StS.later (h : StS W p Z D q Y M O ob x) (B : Below W.heap.size W W') : StS W' p Z D q Y M O ob x :=
  ⟨h.two.later B, (B.block ob h.lt).trans h.blk, h.nz, h.ny, h.rd.below B, h.bo⟩
theorem StS.off (h : StS W p Z D q Y M O ob x) : Off x.bv Z := fun b hb hz => h.two.zo b hz (h.bo b hb)
theorem StS.offY (h : StS W p Z D q Y M O ob x) : ∀ g, x.bv.ownBlock = some g → ¬ Y g ∧ g < W.heap.size := fun b hb => ⟨fun hy => h.two.yo b hy (h.bo b hb), h.two.ol b (h.bo b hb)⟩
end
section
variable {p q ob n : Nat} {Z Y O : Nat → Prop} {D D' : Pl} {M : Md} {L : List Tr} {x : PV}
theorem st_add (id : Int) (w : World) (h : StS w p Z D q Y M O ob x) (hid : id ≤ 9223372036854775807) (hb : x.o.b.length ≤ 1000000000) :
    Calls Try.prog 13 #[.pointer (some ⟨p, 0, none⟩), .agg #[.int .i64 id, x.bv]] w fun e w' => e = .returned (.int .i64 (D.add id x.o.b).1) ∧ ∃ Z', StS w' p Z' (D.add id x.o.b).2 q Y M O ob x ∧ DStep (fun b => Z b ∨ Y b) (fun b => Z' b ∨ Y b) w w' := by
  refine (pz_add id x.bv x.o.b w h.two.pz hid h.rd hb).mono ?_
  rintro e w' ⟨rfl, Z', P, S⟩
  exact ⟨rfl, Z', h.pool P S, S.wide Y⟩
theorem st_madd (id : Int) (w : World) (h : StS w p Z D' q Y (mdOf D L) O ob x) (ok : POk D) (hb : x.o.b.length ≤ 1000000000) :
    Calls Try.prog 35 #[.pointer (some ⟨q, 0, none⟩), .int .i64 id, x.bv] w fun e w' => e = .returned (.int .i64 (D.add id x.o.b).1) ∧ ∃ Y', StS w' p Z D' q Y' (mdOf (D.add id x.o.b).2 L) O ob x ∧ DStep (fun b => Z b ∨ Y b) (fun b => Z b ∨ Y' b) w w' := by
  obtain ⟨R, hm, hr⟩ := h.two.md
  refine (madd_any id x.bv x.o.b w hm ok h.rd hb h.offY).mono ?_
  rintro e w' ⟨rfl, Y', R', P, hR, S⟩
  exact ⟨rfl, Y', h.model P (fun b hb => (hR b hb).elim (hr b) (h.bo b)) S, S.wideL Z⟩
theorem st_ask (i t : Int) (w : World) (h : StS w p Z D q Y M O ob x) (hn : TL n D) (hn1 : n ≤ 1000000000) :
    Calls Try.prog 15 #[.pointer (some ⟨p, 0, none⟩), .int .i64 i, .int .i64 t] w fun e w' => ∃ bv Z', e = .returned (.tuple #[.agg #[.int .i64 (D.ask i t).1.id, bv], .int .i64 (D.ask i t).1.n, .bool (D.ask i t).1.is, .int .i64 (D.ask i t).1.err]) ∧
      w'.ownsRow w.heap.size 5 1 bv (D.ask i t).1.body.length ((D.ask i t).1.body.map vB) ∧ StS w' p Z' (D.ask i t).2 q Y M O ob x ∧ DStep (fun b => Z b ∨ Y b) (fun b => Z' b ∨ Y b) w w' ∧ Off bv Z' := by
  refine (pz_ask i t w h.two.pz hn hn1).mono ?_
  rintro e w' ⟨bv, Z', rfl, hO, P, S, ho⟩
  exact ⟨bv, Z', rfl, hO, h.pool P S, S.wide Y, ho⟩
theorem st_mask (i t : Int) (w : World) (h : StS w p Z D' q Y (mdOf D L) O ob x) (ok : POk D) (s : Sim n D L) (hn : n ≤ 1000000) :
    Calls Try.prog 36 #[.pointer (some ⟨q, 0, none⟩), .int .i64 i, .int .i64 t] w fun e w' => e = .returned (.tuple #[.int .i64 (D.ask i t).1.id, .int .i64 (D.ask i t).1.n, .bool (D.ask i t).1.is, .int .i64 (D.ask i t).1.err]) ∧
      ∃ Y', StS w' p Z D' q Y' (mdOf (D.ask i t).2 (D.logAsk i t L)) O ob x ∧ DStep (fun b => Z b ∨ Y b) (fun b => Z b ∨ Y' b) w w' := by
  obtain ⟨R, hm, hr⟩ := h.two.md
  refine (mask_any i t w hm ok s.log s.ll s.tl hn).mono ?_
  rintro e w' ⟨rfl, Y', P, S⟩
  exact ⟨rfl, Y', h.model P hr S, S.wideL Z⟩
theorem st_answer (task worker tr t : Int) (w : World) (h : StS w p Z D q Y M O ob x) (htr : -9223372036854775808 ≤ tr ∧ tr ≤ 9223372036854775807) (hb : x.o.b.length ≤ 1000000000) :
    Calls Try.prog 16 #[.pointer (some ⟨p, 0, none⟩), .agg #[.int .i64 task, .int .i64 worker, .int .i64 tr, x.bv], .int .i64 t] w fun e w' => e = .returned (.tuple #[.bool (D.answer task worker tr x.o.b t).1, .int .i64 (D.answer task worker tr x.o.b t).2.1]) ∧
      ∃ Z', StS w' p Z' (D.answer task worker tr x.o.b t).2.2 q Y M O ob x ∧ DStep (fun b => Z b ∨ Y b) (fun b => Z' b ∨ Y b) w w' := by
  refine (pz_answer task worker tr x.bv x.o.b t w h.two.pz htr h.rd hb h.off).mono ?_
  rintro e w' ⟨rfl, Z', P, S⟩
  exact ⟨rfl, Z', h.pool P S, S.wide Y⟩
theorem st_manswer (task worker tr t : Int) (w : World) (h : StS w p Z D' q Y (mdOf D L) O ob x) (ok : POk D) (s : Sim n D L) (hn : n ≤ 1000000) (hb : x.o.b.length ≤ 1000000000) :
    Calls Try.prog 37 #[.pointer (some ⟨q, 0, none⟩), .int .i64 task, .int .i64 worker, .int .i64 tr, x.bv, .int .i64 t] w fun e w' => e = .returned (.tuple #[.bool (D.answer task worker tr x.o.b t).1, .int .i64 (D.answer task worker tr x.o.b t).2.1]) ∧
      ∃ Y', StS w' p Z D' q Y' (mdOf (D.answer task worker tr x.o.b t).2.2 L) O ob x ∧ DStep (fun b => Z b ∨ Y b) (fun b => Z b ∨ Y' b) w w' := by
  obtain ⟨R, hm, hr⟩ := h.two.md
  refine (manswer_any task worker tr x.bv x.o.b t w hm ok s.log (by have := s.ll; omega) h.rd hb h.offY).mono ?_
  rintro e w' ⟨rfl, R', P, hR, S⟩
  exact ⟨rfl, Y, h.model P (fun b hb => (hR b hb).elim (hr b) (h.bo b)) S, S.wideL Z⟩
theorem st_die (i t : Int) (w : World) (h : StS w p Z D q Y M O ob x) :
    Calls Try.prog 38 #[.pointer (some ⟨p, 0, none⟩), .int .i64 i, .int .i64 t] w fun e w' => e = .returned (.int .i64 (D.die i t).1) ∧ ∃ Z', StS w' p Z' (D.die i t).2 q Y M O ob x ∧ DStep (fun b => Z b ∨ Y b) (fun b => Z' b ∨ Y b) w w' := by
  refine (pz_die i t w h.two.pz).mono ?_
  rintro e w' ⟨rfl, Z', P, S⟩
  exact ⟨rfl, Z', h.pool P S, S.wide Y⟩
theorem st_mdie (i t : Int) (w : World) (h : StS w p Z D' q Y (mdOf D L) O ob x) (s : Sim n D L) (hn : n ≤ 1000000) :
    Calls Try.prog 39 #[.pointer (some ⟨q, 0, none⟩), .int .i64 i, .int .i64 t] w fun e w' => e = .returned (.int .i64 (D.die i t).1) ∧ ∃ Y', StS w' p Z D' q Y' (mdOf (D.die i t).2 (D.logDie i t L)) O ob x ∧ DStep (fun b => Z b ∨ Y b) (fun b => Z b ∨ Y' b) w w' := by
  obtain ⟨R, hm, hr⟩ := h.two.md
  refine (mdie_any i t w hm (by have := s.ll; show L.length ≤ _; omega)).mono ?_
  rw [mdOf_die]
  rintro e w' ⟨rfl, P, S⟩
  exact ⟨rfl, Y, h.model P hr S, S.wideL Z⟩
theorem st_revive (i : Int) (w : World) (h : StS w p Z D q Y M O ob x) :
    Calls Try.prog 40 #[.pointer (some ⟨p, 0, none⟩), .int .i64 i] w fun e w' => e = .returned (.int .i64 (D.revive i).1) ∧ ∃ Z', StS w' p Z' (D.revive i).2 q Y M O ob x ∧ DStep (fun b => Z b ∨ Y b) (fun b => Z' b ∨ Y b) w w' := by
  refine (pz_revive i w h.two.pz).mono ?_
  rintro e w' ⟨rfl, Z', P, S⟩
  exact ⟨rfl, Z', h.pool P S, S.wide Y⟩
theorem st_mrevive (i : Int) (w : World) (h : StS w p Z D' q Y (mdOf D L) O ob x) :
    Calls Try.prog 41 #[.pointer (some ⟨q, 0, none⟩), .int .i64 i] w fun e w' => e = .returned (.int .i64 (D.revive i).1) ∧ ∃ Y', StS w' p Z D' q Y' (mdOf (D.revive i).2 L) O ob x ∧ DStep (fun b => Z b ∨ Y b) (fun b => Z b ∨ Y' b) w w' := by
  obtain ⟨R, hm, hr⟩ := h.two.md
  refine (mrevive_any i w hm).mono ?_
  rw [mdOf_revive]
  rintro e w' ⟨rfl, P, S⟩
  exact ⟨rfl, Y, h.model P hr S, S.wideL Z⟩
end
/-- What a step returns. -/
def StepPost (n : Nat) (w : World) (p : Nat) (Z : Nat → Prop) (q : Nat) (Y O : Nat → Prop) (e : Ending) (w' : World) : Prop :=
  e = .returned (.bool true) ∧ ∃ Z' Y' D' L', Two w' p Z' D' q Y' (mdOf D' L') O ∧ Sim (n + 1) D' L' ∧ DStep (fun b => Z b ∨ Y b) (fun b => Z' b ∨ Y' b) w w'
end Go.Proofs.Ytfdacckkdjpjhaa
