/- Package pool and its model: an operation on both, one after the other; New refused. -/
import Derived.Test.YtfdacckkdjpjhaaPmQ
namespace Go.Proofs.Ytfdacckkdjpjhaa
open Go.RowKit

/-- A pool and its model within a law. -/
structure TwU (w W : World) (p : Nat) (Z : Nat → Prop) (D : Pl) (q : Nat) (Y : Nat → Prop) (M : Md) (O : Nat → Prop) : Prop where
  two : Two W p Z D q Y M O
  bel : Below w.heap.size w W
  lo : ∀ b, Z b ∨ Y b → w.heap.size ≤ b
def AddRel (id : Int) (b : List UInt8) (D : Pl) (r : Int) (D1 : Pl) : Prop := D.add id b = (r, D1)
def AskRel (x t : Int) (D : Pl) (L : List Tr) (A : Asked) (D1 : Pl) (L1 : List Tr) : Prop := D.ask x t = (A, D1) ∧ D.logAsk x t L = L1
def AnsRel (task worker tr : Int) (b : List UInt8) (t : Int) (D : Pl) (f : Bool) (r : Int) (D1 : Pl) : Prop := D.answer task worker tr b t = (f, r, D1)
def DieRel (x t : Int) (D : Pl) (L : List Tr) (r : Int) (D1 : Pl) (L1 : List Tr) : Prop := D.die x t = (r, D1) ∧ D.logDie x t L = L1
def RevRel (x : Int) (D : Pl) (r : Int) (D1 : Pl) : Prop := D.revive x = (r, D1)
section
variable {w W W' : World} {p q n : Nat} {Z Z' Y Y' O : Nat → Prop} {D D1 : Pl} {M M' : Md} {L L1 : List Tr}
theorem TwU.pool (h : TwU w W p Z D q Y M O) (P : PZ W' p Z' D1) (S : DStep Z Z' W W') : TwU w W' p Z' D1 q Y M O :=
  ⟨h.two.pool P S, h.bel.trans (S.toBelow h.bel.size (fun b hb => h.lo b (.inl hb))), fun b hb => hb.elim (S.ge h.bel.size (fun b hb => h.lo b (.inl hb)) b) (fun e => h.lo b (.inr e))⟩
theorem TwU.model (h : TwU w W p Z D q Y M O) {R' : Nat → Prop} (P : MAt W' q Y' R' M') (hR : ∀ b, R' b → O b) (S : DStep Y Y' W W') : TwU w W' p Z D q Y' M' O :=
  ⟨h.two.model P hR S, h.bel.trans (S.toBelow h.bel.size (fun b hb => h.lo b (.inr hb))), fun b hb => hb.elim (fun e => h.lo b (.inl e)) (S.ge h.bel.size (fun b hb => h.lo b (.inr hb)) b)⟩
theorem TwU.later (h : TwU w W p Z D q Y M O) (B : Below W.heap.size W W') : TwU w W' p Z D q Y M O := ⟨h.two.later B, Go.Proofs.Ytfdacckkdjpjhaa.bel h.bel B, h.lo⟩
/-- A new block that is only read. -/
theorem TwU.lit (h : TwU w W p Z D q Y M O) (o : Obj) : TwU w (W.alloc o) p Z D q Y M (fun b => O b ∨ b = W.heap.size) := by
  have B := (Below.refl W.heap.size W).alloc (Nat.le_refl _) o
  have h1 := h.later B
  refine ⟨h1.two.grow (fun _ h => .inl h) (fun b hb => hb.imp (fun h => h) (fun e => ⟨fun hz => ?_, fun hy => ?_, ?_⟩)), h1.bel, h1.lo⟩
  · have := h.two.pz.zl b hz; omega
  · have := h.two.yl b hy; omega
  · rw [e, World.size_alloc]; omega
theorem tw_add (id : Int) (bv : Value) (b : List UInt8) (W : World) (h : TwU w W p Z D q Y M O) (hid : id ≤ 9223372036854775807) (hb : Rv W bv b.length (b.map vB)) (hbl : b.length ≤ 1000000000) :
    Calls Try.prog 13 #[.pointer (some ⟨p, 0, none⟩), .agg #[.int .i64 id, bv]] W fun e W' => ∃ r D1 Z', e = .returned (.int .i64 r) ∧ AddRel id b D r D1 ∧ TwU w W' p Z' D1 q Y M O := by
  refine (pz_add id bv b W h.two.pz hid hb hbl).mono ?_
  rintro e w' ⟨rfl, Z', P, S⟩
  exact ⟨_, _, Z', rfl, rfl, h.pool P S⟩
theorem tw_madd {id : Int} (bv : Value) {b : List UInt8} (W : World) {r : Int} (hr : AddRel id b D r D1) (h : TwU w W p Z D1 q Y (mdOf D L) O) (ok : POk D) (s : Sim n D L) (hb : Rv W bv b.length (b.map vB)) (hbl : b.length ≤ 1000000000) (ho : ∀ g, bv.ownBlock = some g → O g) :
    Calls Try.prog 35 #[.pointer (some ⟨q, 0, none⟩), .int .i64 id, bv] W fun e W' => e = .returned (.int .i64 r) ∧ ∃ Y', TwU w W' p Z D1 q Y' (mdOf D1 L) O ∧ Sim n D1 L := by
  obtain ⟨R, hm, hR⟩ := h.two.md
  have hs := s.add id b
  refine (madd_any id bv b W hm ok hb hbl (fun g hg => ⟨fun hy => h.two.yo g hy (ho g hg), h.two.ol g (ho g hg)⟩)).mono ?_
  rw [show D.add id b = (r, D1) from hr] at hs ⊢
  rintro e w' ⟨rfl, Y', R', P, hR', S⟩
  exact ⟨rfl, Y', h.model P (fun b hb => (hR' b hb).elim (hR b) (ho b)) S, hs⟩
theorem tw_ask (x t : Int) (W : World) (h : TwU w W p Z D q Y M O) (s : Sim n D L) (hn : n ≤ 1000000) :
    Calls Try.prog 15 #[.pointer (some ⟨p, 0, none⟩), .int .i64 x, .int .i64 t] W fun e W' => ∃ bv A D1 L1 Z', e = .returned (.tuple #[.agg #[.int .i64 A.id, bv], .int .i64 A.n, .bool A.is, .int .i64 A.err]) ∧
      AskRel x t D L A D1 L1 ∧ W'.ownsRow W.heap.size 5 1 bv A.body.length (A.body.map vB) ∧ TwU w W' p Z' D1 q Y M O := by
  refine (pz_ask x t W h.two.pz s.tl (by omega)).mono ?_
  rintro e w' ⟨bv, Z', rfl, hO, P, S, _⟩
  exact ⟨bv, _, _, _, Z', rfl, ⟨rfl, rfl⟩, hO, h.pool P S⟩
theorem tw_mask {x t : Int} (W : World) {A : Asked} (hr : AskRel x t D L A D1 L1) (h : TwU w W p Z D1 q Y (mdOf D L) O) (ok : POk D) (s : Sim n D L) (hn : n ≤ 1000000) :
    Calls Try.prog 36 #[.pointer (some ⟨q, 0, none⟩), .int .i64 x, .int .i64 t] W fun e W' => e = .returned (.tuple #[.int .i64 A.id, .int .i64 A.n, .bool A.is, .int .i64 A.err]) ∧ ∃ Y', TwU w W' p Z D1 q Y' (mdOf D1 L1) O ∧ Sim (n + 1) D1 L1 ∧ ∀ b, O b → W'.heap[b]? = W.heap[b]? := by
  obtain ⟨R, hm, hR⟩ := h.two.md
  have hs := s.ask ok x t
  refine (mask_any x t W hm ok s.log s.ll s.tl hn).mono ?_
  rw [hr.1, hr.2] at hs ⊢
  rintro e w' ⟨rfl, Y', P, S⟩
  exact ⟨rfl, Y', h.model P hR S, hs, fun b hb => S.block b (h.two.ol b hb) (fun hy => h.two.yo b hy hb)⟩
theorem tw_answer (task worker tr : Int) (bv : Value) (b : List UInt8) (t : Int) (W : World) (h : TwU w W p Z D q Y M O) (htr : -9223372036854775808 ≤ tr ∧ tr ≤ 9223372036854775807) (hb : Rv W bv b.length (b.map vB)) (hbl : b.length ≤ 1000000000) (ho : ∀ g, bv.ownBlock = some g → O g) :
    Calls Try.prog 16 #[.pointer (some ⟨p, 0, none⟩), .agg #[.int .i64 task, .int .i64 worker, .int .i64 tr, bv], .int .i64 t] W fun e W' => ∃ f r D1 Z', e = .returned (.tuple #[.bool f, .int .i64 r]) ∧ AnsRel task worker tr b t D f r D1 ∧ TwU w W' p Z' D1 q Y M O := by
  refine (pz_answer task worker tr bv b t W h.two.pz htr hb hbl (fun g hg hz => h.two.zo g hz (ho g hg))).mono ?_
  rintro e w' ⟨rfl, Z', P, S⟩
  exact ⟨_, _, _, Z', rfl, rfl, h.pool P S⟩
theorem tw_manswer {task worker tr : Int} (bv : Value) {b : List UInt8} {t : Int} (W : World) {f : Bool} {r : Int} (hr : AnsRel task worker tr b t D f r D1) (h : TwU w W p Z D1 q Y (mdOf D L) O) (ok : POk D) (s : Sim n D L) (hn : n ≤ 1000000) (hb : Rv W bv b.length (b.map vB)) (hbl : b.length ≤ 1000000000) (ho : ∀ g, bv.ownBlock = some g → O g) :
    Calls Try.prog 37 #[.pointer (some ⟨q, 0, none⟩), .int .i64 task, .int .i64 worker, .int .i64 tr, bv, .int .i64 t] W fun e W' => e = .returned (.tuple #[.bool f, .int .i64 r]) ∧ ∃ Y', TwU w W' p Z D1 q Y' (mdOf D1 L) O ∧ Sim n D1 L := by
  obtain ⟨R, hm, hR⟩ := h.two.md
  have hs := s.answer task worker tr b t
  refine (manswer_any task worker tr bv b t W hm ok s.log (by have := s.ll; omega) hb hbl (fun g hg => ⟨fun hy => h.two.yo g hy (ho g hg), h.two.ol g (ho g hg)⟩)).mono ?_
  rw [show D.answer task worker tr b t = (f, r, D1) from hr] at hs ⊢
  rintro e w' ⟨rfl, R', P, hR', S⟩
  exact ⟨rfl, Y, h.model P (fun b hb => (hR' b hb).elim (hR b) (ho b)) S, hs⟩
theorem tw_die (x t : Int) (W : World) (L : List Tr) (h : TwU w W p Z D q Y M O) :
    Calls Try.prog 38 #[.pointer (some ⟨p, 0, none⟩), .int .i64 x, .int .i64 t] W fun e W' => ∃ r D1 L1 Z', e = .returned (.int .i64 r) ∧ DieRel x t D L r D1 L1 ∧ TwU w W' p Z' D1 q Y M O := by
  refine (pz_die x t W h.two.pz).mono ?_
  rintro e w' ⟨rfl, Z', P, S⟩
  exact ⟨_, _, _, Z', rfl, ⟨rfl, rfl⟩, h.pool P S⟩
theorem tw_mdie {x t : Int} (W : World) {r : Int} (hr : DieRel x t D L r D1 L1) (h : TwU w W p Z D1 q Y (mdOf D L) O) (ok : POk D) (s : Sim n D L) (hn : n ≤ 1000000) :
    Calls Try.prog 39 #[.pointer (some ⟨q, 0, none⟩), .int .i64 x, .int .i64 t] W fun e W' => e = .returned (.int .i64 r) ∧ ∃ Y', TwU w W' p Z D1 q Y' (mdOf D1 L1) O ∧ Sim n D1 L1 := by
  obtain ⟨R, hm, hR⟩ := h.two.md
  have hs := s.die ok x t
  refine (mdie_any x t W hm (by have := s.ll; show L.length ≤ _; omega)).mono ?_
  rw [mdOf_die]
  rw [hr.1, hr.2] at hs ⊢
  rintro e w' ⟨rfl, P, S⟩
  exact ⟨rfl, Y, h.model P hR S, hs⟩
theorem tw_revive (x : Int) (W : World) (h : TwU w W p Z D q Y M O) :
    Calls Try.prog 40 #[.pointer (some ⟨p, 0, none⟩), .int .i64 x] W fun e W' => ∃ r D1 Z', e = .returned (.int .i64 r) ∧ RevRel x D r D1 ∧ TwU w W' p Z' D1 q Y M O := by
  refine (pz_revive x W h.two.pz).mono ?_
  rintro e w' ⟨rfl, Z', P, S⟩
  exact ⟨_, _, Z', rfl, rfl, h.pool P S⟩
theorem tw_mrevive {x : Int} (W : World) {r : Int} (hr : RevRel x D r D1) (h : TwU w W p Z D1 q Y (mdOf D L) O) (s : Sim n D L) :
    Calls Try.prog 41 #[.pointer (some ⟨q, 0, none⟩), .int .i64 x] W fun e W' => e = .returned (.int .i64 r) ∧ ∃ Y', TwU w W' p Z D1 q Y' (mdOf D1 L) O ∧ Sim n D1 L := by
  obtain ⟨R, hm, hR⟩ := h.two.md
  have hs := s.revive x
  refine (mrevive_any x W hm).mono ?_
  rw [mdOf_revive]
  rw [show D.revive x = (r, D1) from hr] at hs ⊢
  rintro e w' ⟨rfl, P, S⟩
  exact ⟨rfl, Y, h.model P hR S, hs⟩
end
set_option maxRecDepth 10000 in
theorem pnew_bad (n t : Int) (h : n < 1 ∨ 64 < n ∨ t < 1 ∨ 1099511627776 < t) (w : World) :
    Calls Try.prog 12 #[.int .i64 n, .int .i64 t] w fun e w' => e = .returned (.tuple #[.pointer none, .int .i64 1]) ∧ w' = w := by
  by_cases h1 : n < 1
  · go_enter Try.func12, Try.ntmps12
    clear h
    go_wp2_with fail
    go_ret2
    exact ⟨rfl, rfl⟩
  · by_cases h2 : 64 < n
    · go_enter Try.func12, Try.ntmps12
      clear h
      go_wp2_with fail
      go_ret2
      exact ⟨rfl, rfl⟩
    · by_cases h3 : t < 1
      · go_enter Try.func12, Try.ntmps12
        clear h
        go_wp2_with fail
        go_ret2
        exact ⟨rfl, rfl⟩
      · have h4 : 1099511627776 < t := by omega
        go_enter Try.func12, Try.ntmps12
        clear h
        go_wp2_with fail
        go_ret2
        exact ⟨rfl, rfl⟩
end Go.Proofs.Ytfdacckkdjpjhaa
