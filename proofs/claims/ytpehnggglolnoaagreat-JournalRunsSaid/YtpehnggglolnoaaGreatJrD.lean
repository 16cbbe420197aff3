/- The law JournalRuns: the state of its two sides. -/
import Derived.Test.YtpehnggglolnoaaGreatJrC
import Derived.Test.YtpehnggglolnoaaGreatJlF
import Derived.Test.YtpehnggglolnoaaGreatTake
namespace Go.Proofs.YtpehnggglolnoaaGreat
open Go.RowKit

/-- The disk D in the program, the model disk E, apart. -/
structure RSt (w0 w : World) (p q : Nat) (X Y : Nat → Prop) (D E : Dk) : Prop where
  js : JS w0 w p X D
  m : MAt w q Y E
  ylo : ∀ b, Y b → w0.heap.size ≤ b
  sep : Sep X Y
/-- The same log on both sides. -/
structure RLog (w0 w : World) (p q a z : Nat) (X Y : Nat → Prop) (g h : Lg) : Prop where
  lg : LgAt w a p 2 g
  ml : MLg w z q 2 h
  alo : w0.heap.size ≤ a
  zlo : w0.heap.size ≤ z
  ax : ¬ X a
  ay : ¬ Y a
  zx : ¬ X z
  zy : ¬ Y z
  ne : a ≠ z
/-- Two logs, or none. -/
def RLg (w0 w : World) (p q : Nat) (X Y : Nat → Prop) (lp np : Value) (n0 : Nat) : Prop :=
  (lp = .pointer none ∧ np = .pointer none) ∨ ∃ a z g, lp = .pointer (some ⟨a, 0, none⟩) ∧ np = .pointer (some ⟨z, 0, none⟩) ∧ RLog w0 w p q a z X Y g g ∧ g.n ≤ 16777216 + n0
section
variable {w0 w w' : World} {p q a z : Nat} {X X' Y Y' : Nat → Prop} {D E D' E' : Dk} {g h g' : Lg} {lp np : Value} {n0 : Nat}
theorem RSt.later (H : RSt w0 w p q X Y D E) (B : Below w.heap.size w w') : RSt w0 w' p q X Y D E := ⟨H.js.later B, H.m.later B, H.ylo, H.sep⟩
theorem RLog.later (H : RLog w0 w p q a z X Y g h) (B : Below w.heap.size w w') : RLog w0 w' p q a z X Y g h := ⟨H.lg.later B, H.ml.later B, H.alo, H.zlo, H.ax, H.ay, H.zx, H.zy, H.ne⟩
theorem RLg.later (H : RLg w0 w p q X Y lp np n0) (B : Below w.heap.size w w') : RLg w0 w' p q X Y lp np n0 :=
  H.imp id fun ⟨a, z, g, h1, h2, h3, h4⟩ => ⟨a, z, g, h1, h2, h3.later B, h4⟩
theorem RLg.more (H : RLg w0 w p q X Y lp np n0) : RLg w0 w p q X Y lp np (n0 + 1) :=
  H.imp id fun ⟨a, z, g, h1, h2, h3, h4⟩ => ⟨a, z, g, h1, h2, h3, by omega⟩
/-- A step of the program's disk. -/
theorem RSt.stepD (H : RSt w0 w p q X Y D E) (hD : DAt w' p X' D') (S : DStep X X' w w') : RSt w0 w' p q X' Y D' E :=
  ⟨H.js.step hD S, H.m.other S H.sep, H.ylo, H.sep.step S H.m.yl⟩
theorem RLog.stepD (H : RLog w0 w p q a z X Y g h) (S : DStep X X' w w') : RLog w0 w' p q a z X' Y g h :=
  ⟨H.lg.step S H.ax, H.ml.step S H.zx, H.alo, H.zlo, fun hx => (S.grow _ hx).elim H.ax (fun h1 => by have := H.lg.lt; omega), H.ay, fun hx => (S.grow _ hx).elim H.zx (fun h1 => by have := H.ml.lt; omega), H.zy, H.ne⟩
theorem RLg.stepD (H : RLg w0 w p q X Y lp np n0) (S : DStep X X' w w') : RLg w0 w' p q X' Y lp np n0 :=
  H.imp id fun ⟨a, z, g, h1, h2, h3, h4⟩ => ⟨a, z, g, h1, h2, h3.stepD S, h4⟩
/-- A step of the model disk. -/
theorem RSt.stepM (H : RSt w0 w p q X Y D E) (hE : MAt w' q Y' E') (S : DStep Y Y' w w') : RSt w0 w' p q X Y' D E' :=
  ⟨⟨H.js.d.other S H.sep.symm, H.js.lo, H.js.be.trans (S.toBelow H.js.be.size H.ylo)⟩, hE, S.ge H.js.be.size H.ylo, (H.sep.symm.step S H.js.d.xl).symm⟩
theorem RLog.stepM (H : RLog w0 w p q a z X Y g h) (S : DStep Y Y' w w') : RLog w0 w' p q a z X Y' g h :=
  ⟨H.lg.step S H.ay, H.ml.step S H.zy, H.alo, H.zlo, H.ax, fun hx => (S.grow _ hx).elim H.ay (fun h1 => by have := H.lg.lt; omega), H.zx, fun hx => (S.grow _ hx).elim H.zy (fun h1 => by have := H.ml.lt; omega), H.ne⟩
theorem RLg.stepM (H : RLg w0 w p q X Y lp np n0) (S : DStep Y Y' w w') : RLg w0 w' p q X Y' lp np n0 :=
  H.imp id fun ⟨a, z, g, h1, h2, h3, h4⟩ => ⟨a, z, g, h1, h2, h3.stepM S, h4⟩
/-- Append on the program's log. -/
theorem rappend (H : RSt w0 w p q X Y D E) (L : RLog w0 w p q a z X Y g h) (bv : Value) (b : List UInt8) (hb : Rv w bv b.length (b.map vB)) (hbl : b.length ≤ 1000000000) (hn : g.n ≤ 1000000000) :
    Calls Tryz.prog 15 #[.pointer (some ⟨a, 0, none⟩), bv] w fun e w' => e = .returned (.int .i64 (D.logApp 2 g b).1) ∧ ∃ X', RSt w0 w' p q X' Y (D.logApp 2 g b).2.1 E ∧ RLog w0 w' p q a z X' Y (D.logApp 2 g b).2.2 h ∧ DStep (fun b => X b ∨ b = a) (fun b => X' b ∨ b = a) w w' := by
  refine (lappend 2 g bv b w H.js.d L.lg L.ax hb hbl hn).mono ?_
  rintro e w' ⟨rfl, X', hD, hg, hX, S⟩
  have sp : Sep (fun b => X b ∨ b = a) Y := fun b hb hy => hb.elim (fun h => H.sep b h hy) (fun e => L.ay (e ▸ hy))
  have nz : ¬ (X z ∨ z = a) := fun h => h.elim L.zx (fun e => L.ne e.symm)
  exact ⟨rfl, X', ⟨H.js.lstep L.alo hD S, H.m.other S sp, H.ylo, fun b hb => (sp.step S H.m.yl) b (.inl hb)⟩, ⟨hg, L.ml.step S nz, L.alo, L.zlo, hX, L.ay, fun hx => (S.grow z (.inl hx)).elim nz (fun h1 => by have := L.ml.lt; omega), L.zy, L.ne⟩, S⟩
/-- Append on the model's log. -/
theorem rmappend (H : RSt w0 w p q X Y D E) (L : RLog w0 w p q a z X Y g h) (bv : Value) (b : List UInt8) (hb : Rv w bv b.length (b.map vB)) (hbl : b.length ≤ 1000000000) (hn : h.n ≤ 1000000000) :
    Calls Tryz.prog 16 #[.pointer (some ⟨z, 0, none⟩), bv] w fun e w' => e = .returned (.int .i64 (E.logApp 2 h b).1) ∧ ∃ Y', RSt w0 w' p q X Y' D (E.logApp 2 h b).2.1 ∧ RLog w0 w' p q a z X Y' g (E.logApp 2 h b).2.2 ∧ DStep (fun b => Y b ∨ b = z) (fun b => Y' b ∨ b = z) w w' := by
  refine (mlappend 2 h bv b w H.m L.ml L.zy hb hbl hn).mono ?_
  rintro e w' ⟨rfl, Y', hE, hg, hY, S⟩
  have sp : Sep (fun b => Y b ∨ b = z) X := fun b hb hx => hb.elim (fun h => H.sep b hx h) (fun e => L.zx (e ▸ hx))
  have na : ¬ (Y a ∨ a = z) := fun h => h.elim L.ay (fun e => L.ne e)
  have hl : ∀ b, (Y b ∨ b = z) → w0.heap.size ≤ b := fun b hb => hb.elim (H.ylo b) (fun e => e ▸ L.zlo)
  exact ⟨rfl, Y', ⟨⟨H.js.d.other S sp, H.js.lo, H.js.be.trans (S.toBelow H.js.be.size hl)⟩, hE, fun b hb => S.ge H.js.be.size hl b (.inl hb), fun b hb hy => (sp.step S H.js.d.xl) b (.inl hy) hb⟩, ⟨L.lg.step S na, hg, L.alo, L.zlo, L.ax, fun hx => (S.grow a (.inl hx)).elim na (fun h1 => by have := L.lg.lt; omega), L.zx, hY, L.ne⟩, S⟩
end
/-- How many records a file has. -/
theorem open_len {D : Dk} (hD : DOk D) (f : Int) : (D.logOpen f).2.2.length ≤ 16777216 := by
  have h1 := hD.flen f
  have h2 := scanJ_len (D.fs f).1.length 0 (D.fs f).1
  change (scanL (D.fs f).1).2 ≤ _ ∧ (scanL (D.fs f).1).1.length ≤ (scanL (D.fs f).1).2 at h2
  unfold Dk.logOpen
  split
  · exact Nat.zero_le _
  · split
    · exact Nat.zero_le _
    · split
      · exact Nat.zero_le _
      · exact Nat.le_trans h2.2 (Nat.le_trans h2.1 h1)
theorem tdiv8 (op : Int) (h : -9223372036854775808 ≤ op ∧ op ≤ 9223372036854775807) : -9223372036854775808 ≤ op.tdiv 8 ∧ op.tdiv 8 ≤ 9223372036854775807 := by
  obtain ⟨h1, h2⟩ := h
  rcases Int.le_total 0 op with h0 | h0
  · rw [Int.tdiv_eq_ediv_of_nonneg h0]
    omega
  · have e : op.tdiv 8 = -((-op) / 8) := by
      rw [← Int.tdiv_eq_ediv_of_nonneg (by omega), Int.neg_tdiv, Int.neg_neg]
    rw [e]
    omega
/-- How many records a log has behind an Append. -/
theorem logApp_n (D : Dk) (f : Int) (g : Lg) (b : List UInt8) : (D.logApp f g b).2.2.n ≤ g.n + 1 := by
  unfold Dk.logApp
  split
  · exact Nat.le_succ _
  · split
    · exact Nat.le_succ _
    · split
      · exact Nat.le_succ _
      · split
        · exact Nat.le_succ _
        · exact Nat.le_refl _
/-- Both are opened anew. -/
theorem ropen {w0 w : World} {p q : Nat} {X Y : Nat → Prop} {D E : Dk} (H : RSt w0 w p q X Y D E) :
    Calls Tryz.prog 7 #[.pointer (some ⟨p, 0, none⟩), .int .i64 2] w fun en w' => ∃ lp v X', en = .returned (.tuple #[lp, v, .int .i64 (D.logOpen 2).1]) ∧ RSt w0 w' p q X' Y (D.logOpen 2).2.1 E ∧ DStep X X' w w' ∧
      (((D.logOpen 2).1 = 0 ∧ ∃ a us, lp = .pointer (some ⟨a, 0, none⟩) ∧ LgAt w' a p 2 ⟨(D.logOpen 2).2.2.length, false⟩ ∧ w.heap.size ≤ a ∧ ¬ X' a ∧ LsX w' (fun b => b < w.heap.size) w.heap.size v us (D.logOpen 2).2.2) ∨ ((D.logOpen 2).1 ≠ 0 ∧ lp = .pointer none ∧ v = .slice none 0 0)) := by
  refine (open_any 2 w H.js.d).mono ?_
  rintro e w' ⟨X', hD, S, ⟨h0, a, v, us, rfl, h1, h2, h3, h4⟩ | ⟨h0, rfl⟩⟩
  · exact ⟨_, v, X', by rw [h0], H.stepD hD S, S, .inl ⟨h0, a, us, rfl, h1, h2, h3, h4.less (fun b hb => .inr hb)⟩⟩
  · exact ⟨_, _, X', rfl, H.stepD hD S, S, .inr ⟨h0, rfl, rfl⟩⟩
theorem rmopen {w0 w : World} {p q : Nat} {X Y : Nat → Prop} {D E : Dk} (H : RSt w0 w p q X Y D E) :
    Calls Tryz.prog 8 #[.pointer (some ⟨q, 0, none⟩), .int .i64 2] w fun en w' => ∃ np v, en = .returned (.tuple #[np, v, .int .i64 (E.logOpen 2).1]) ∧ RSt w0 w' p q X Y D (E.logOpen 2).2.1 ∧ DStep Y Y w w' ∧
      (((E.logOpen 2).1 = 0 ∧ ∃ z a c, np = .pointer (some ⟨z, 0, none⟩) ∧ v = .slice a (E.logOpen 2).2.2.length c ∧ MLg w' z q 2 ⟨(E.logOpen 2).2.2.length, false⟩ ∧ w.heap.size ≤ z ∧ ¬ Y z ∧ LsB w' v (E.logOpen 2).2.2) ∨ ((E.logOpen 2).1 ≠ 0 ∧ np = .pointer none ∧ v = .slice none 0 0)) := by
  refine (mopen_any 2 (by decide) w H.m).mono ?_
  rintro e w' ⟨hE, S, ⟨h0, z, a, c, rfl, h1, h2, h3, h4⟩ | ⟨h0, rfl⟩⟩
  · exact ⟨_, _, by rw [show ((2 : Nat) : Int) = 2 from rfl] at h0 ⊢; rw [h0], H.stepM hE S, S, .inl ⟨h0, z, a, c, rfl, rfl, h1, h2, h3, h4⟩⟩
  · exact ⟨_, _, rfl, H.stepM hE S, S, .inr ⟨h0, rfl, rfl⟩⟩
/-- Both at once: what they leave. -/
theorem rboth {w0 w w1 w2 : World} {p q : Nat} {X X1 Y : Nat → Prop} {D G : Dk} {lp np v u : Value} {c : Int} {K : List (List UInt8)} (n0 : Nat) (H : RSt w0 w p q X Y D D) (H1 : RSt w0 w1 p q X1 Y G D) (S1 : DStep X X1 w w1) (S2 : DStep Y Y w1 w2) (hK : K.length ≤ 16777216)
    (P1 : (c = 0 ∧ ∃ a us, lp = .pointer (some ⟨a, 0, none⟩) ∧ LgAt w1 a p 2 ⟨K.length, false⟩ ∧ w.heap.size ≤ a ∧ ¬ X1 a ∧ LsX w1 (fun b => b < w.heap.size) w.heap.size v us K) ∨ (c ≠ 0 ∧ lp = .pointer none ∧ v = .slice none 0 0))
    (P2 : (c = 0 ∧ ∃ z a k, np = .pointer (some ⟨z, 0, none⟩) ∧ u = .slice a K.length k ∧ MLg w2 z q 2 ⟨K.length, false⟩ ∧ w1.heap.size ≤ z ∧ ¬ Y z ∧ LsB w2 u K) ∨ (c ≠ 0 ∧ np = .pointer none ∧ u = .slice none 0 0)) :
    RLg w0 w2 p q X1 Y lp np n0 ∧ ∃ M k a l b m, v = .slice a k l ∧ u = .slice b k m ∧ k = M.length ∧ LsB w2 v M ∧ LsB w2 u M := by
  rcases P1 with ⟨hc, a, us, rfl, h1, h2, h3, h4⟩ | ⟨hc, rfl, rfl⟩
  · rcases P2 with ⟨_, z, b, k, rfl, rfl, k1, k2, k3, k4⟩ | ⟨hc2, _⟩
    · have hw := H.js.be.size
      have hYl : ∀ b, Y b → b < w.heap.size := H.m.yl
      have ha := h1.lt
      have hs1 := S1.size
      have ay : ¬ Y a := fun hy => by have := hYl a hy; omega
      have zx : ¬ X1 z := fun hx => by have := H1.js.d.xl z hx; omega
      have L2 := (h4.less (X' := Y) (fun b hb => hYl b hb)).step S2
      obtain ⟨k0, a0, c0, rfl⟩ := own_shape L2.o.own
      obtain rfl : k0 = K.length := own_k L2.o.own
      exact ⟨.inr ⟨a, z, _, rfl, rfl, ⟨h1.step S2 ay, k1, by omega, by omega, h3, ay, zx, k3, by omega⟩, by show K.length ≤ _; omega⟩, K, _, a0, c0, b, k, rfl, rfl, rfl, L2.ls, k4⟩
    · exact absurd hc hc2
  · rcases P2 with ⟨hc2, _⟩ | ⟨_, rfl, rfl⟩
    · exact absurd hc2 hc
    · refine ⟨.inl ⟨rfl, rfl⟩, [], 0, _, _, _, _, rfl, rfl, rfl, ?_, ?_⟩ <;> exact ⟨[], Rv.nil _, rfl, fun i hi => absurd hi (Nat.not_lt_zero _)⟩
end Go.Proofs.YtpehnggglolnoaaGreat
