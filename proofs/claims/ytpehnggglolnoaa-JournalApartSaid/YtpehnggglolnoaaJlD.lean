/- Package journal: the state of a law with a disk and a log. -/
import Derived.Test.YtpehnggglolnoaaJlC
namespace Go.Proofs.Ytpehnggglolnoaa
open Go.RowKit

/-- The disk of a law that began in w0. -/
structure JS (w0 w : World) (p : Nat) (X : Nat → Prop) (D : Dk) : Prop where
  d : DAt w p X D
  lo : ∀ b, X b → w0.heap.size ≤ b
  be : Below w0.heap.size w0 w
/-- And a log on it. -/
structure JL (w0 w : World) (p q : Nat) (X : Nat → Prop) (D : Dk) (f : Int) (g : Lg) : Prop where
  js : JS w0 w p X D
  lg : LgAt w q p f g
  qlo : w0.heap.size ≤ q
  nq : ¬ X q
section
variable {w0 w w' : World} {p q : Nat} {f : Int} {g g' : Lg} {X X' : Nat → Prop} {D E : Dk}
theorem JS.later (h : JS w0 w p X D) (B : Below w.heap.size w w') : JS w0 w' p X D := ⟨h.d.later B, h.lo, bel h.be B⟩
theorem JS.step (h : JS w0 w p X D) (hD : DAt w' p X' E) (S : DStep X X' w w') : JS w0 w' p X' E :=
  ⟨hD, S.ge h.be.size h.lo, h.be.trans (S.toBelow h.be.size h.lo)⟩
theorem JS.lstep (h : JS w0 w p X D) (hq : w0.heap.size ≤ q) (hD : DAt w' p X' E) (S : DStep (fun b => X b ∨ b = q) (fun b => X' b ∨ b = q) w w') : JS w0 w' p X' E := by
  have hl : ∀ b, (X b ∨ b = q) → w0.heap.size ≤ b := fun b hb => hb.elim (h.lo b) (fun e => e ▸ hq)
  exact ⟨hD, fun b hb => S.ge h.be.size hl b (.inl hb), h.be.trans (S.toBelow h.be.size hl)⟩
theorem JL.later (h : JL w0 w p q X D f g) (B : Below w.heap.size w w') : JL w0 w' p q X D f g := ⟨h.js.later B, h.lg.later B, h.qlo, h.nq⟩
theorem JL.step (h : JL w0 w p q X D f g) (hD : DAt w' p X' E) (S : DStep X X' w w') : JL w0 w' p q X' E f g :=
  ⟨h.js.step hD S, h.lg.step S h.nq, h.qlo, fun hx => (S.grow q hx).elim h.nq (fun h1 => by have := h.lg.lt; omega)⟩
/-- Append, on a log of the law's. -/
theorem jappend (h : JL w0 w p q X D f g) (bv : Value) (b : List UInt8) (hb : Rv w bv b.length (b.map vB)) (hbl : b.length ≤ 1000000000) (hn : g.n ≤ 1000000000) {r : Int} (ha : D.logApp f g b = (r, E, g')) :
    Calls Try.prog 17 #[.pointer (some ⟨q, 0, none⟩), bv] w fun e w' => e = .returned (.int .i64 r) ∧ ∃ X', JL w0 w' p q X' E f g' ∧ DStep (fun b => X b ∨ b = q) (fun b => X' b ∨ b = q) w w' := by
  refine (lappend f g bv b w h.js.d h.lg h.nq hb hbl hn).mono ?_
  rw [ha]
  rintro e w' ⟨rfl, X', hD, hg, hq, S⟩
  exact ⟨rfl, X', ⟨h.js.lstep h.qlo hD S, hg, h.qlo, hq⟩, S⟩
theorem jopen (h : JS w0 w p X D) (f : Int) {K : List (List UInt8)} (ho : D.logOpen f = (0, E, K)) :
    Calls Try.prog 11 #[.pointer (some ⟨p, 0, none⟩), .int .i64 f] w fun en w' => ∃ q v us X', en = .returned (.tuple #[.pointer (some ⟨q, 0, none⟩), v, .int .i64 0]) ∧ JL w0 w' p q X' E f ⟨K.length, false⟩ ∧ w.heap.size ≤ q ∧ DStep X X' w w' ∧ LsX w' (fun b => X' b ∨ b = q) w.heap.size v us K := by
  refine (open_ok w f h.d ho).mono ?_
  rintro e w' ⟨q, v, us, X', rfl, hD, S, hg, hq, hn, L⟩
  exact ⟨q, v, us, X', rfl, ⟨h.step hD S, hg, Nat.le_trans h.be.size hq, hn⟩, hq, S, L⟩
end
set_option maxRecDepth 10000 in
theorem llen_any (w : World) {p q : Nat} {f : Int} {g : Lg} (h : LgAt w q p f g) : Calls Try.prog 42 #[.pointer (some ⟨q, 0, none⟩)] w fun e w' => e = .returned (.int .i64 (g.n : Int)) ∧ ∃ k, w' = w.drewN k := by
  have c2 := h.c2
  go_enter Try.func42, Try.ntmps42
  go_wp2
  go_ret
  exact ⟨rfl, 0, rfl⟩
set_option maxRecDepth 10000 in
theorem lup_any (w : World) {p q : Nat} {f : Int} {g : Lg} (h : LgAt w q p f g) : Calls Try.prog 43 #[.pointer (some ⟨q, 0, none⟩)] w fun e w' => e = .returned (.bool (!g.down)) ∧ ∃ k, w' = w.drewN k := by
  have c3 := h.c3
  have hnot : ∀ (x : Bool) (w : World), (Op.unary .not (.bool x)).run Try.prog w = .ok (.bool (!x)) w := fun _ _ => rfl
  go_enter Try.func43, Try.ntmps43
  go_wp2
  go_ret
  exact ⟨rfl, 0, rfl⟩

/-- A log of small records on a disk with room for many. -/
structure Fit (D : Dk) (f : Int) (n : Nat) (K : List (List UInt8)) : Prop where
  ok : LogOk D f K
  room : D.room = 5000
  used : D.used ≤ 50 * n
  dur : ∀ j, (D.fs j).2 = (D.fs j).1.length
theorem Fit.new (f : Int) (hf : 0 ≤ f ∧ f < 64) : ∃ E, (newD 5000).logOpen f = (0, E, []) ∧ Fit E f 0 [] := by
  obtain ⟨E, h1, h2, h3, h4, _, h6⟩ := logOpen_all (newD_okk 5000 (by decide) (by decide)) (newD_log 5000 f) hf
  rw [newD_used0] at h4
  exact ⟨E, h1, h2, h3, by omega, h6⟩
theorem Fit.app {D : Dk} {f : Int} {n : Nat} {K : List (List UInt8)} (h : Fit D f n K) (hf : 0 ≤ f ∧ f < 64) {b : List UInt8} (hb : b.length ≤ 10) (hn : n ≤ 90) : ∃ E, D.logApp f ⟨K.length, false⟩ b = (0, E, ⟨K.length + 1, false⟩) ∧ Fit E f (n + 1) (K ++ [b]) ∧ ∀ j, j ≠ f → (E.fs j).1 = (D.fs j).1 := by
  have hl := frameM_lens (K.length : Int) b
  have hu := h.used
  obtain ⟨E, h1, h2, h3, h4, h5, h6⟩ := logApp_ok h.ok hf b (by omega) (by rw [h.room]; omega)
  exact ⟨E, h1, ⟨h2, h3.trans h.room, by omega, h6⟩, h5⟩
end Go.Proofs.Ytpehnggglolnoaa
