/- A disk and a model side by side, and operations on both; made. -/
import Derived.Test.YtmofakcpldbbmaaMdM
namespace Go.Proofs.Ytmofakcpldbbmaa
open Go.RowKit

/-- The list and what it is made of lie apart from X. -/
def OsOff (v : Value) (l : List OV) (X : Nat → Prop) : Prop := Off v X ∧ ∀ p ∈ l, Off p.bv X ∧ Off p.kv X
theorem OsL.step2 {B : Nat} {W W' : World} {v : Value} {l : List OV} {X X' : Nat → Prop} (h : OsL B W v l) (S : DStep X X' W W') (ho : OsOff v l X) : OsL B W' v l ∧ OsOff v l X' := by
  refine ⟨⟨own_same h.own (fun b hb => S.block b (h.own.lt b hb).2 (ho.1 b hb)), fun p hp => (h.rd p hp).step S (ho.2 p hp).1 (ho.2 p hp).2, fun p hp g hg => ⟨(h.low p hp g hg).1, Nat.lt_of_lt_of_le (h.low p hp g hg).2.1 S.size, (h.low p hp g hg).2.2⟩⟩, ?_, fun p hp => ⟨?_, ?_⟩⟩
  · exact fun b hb hx => (S.grow b hx).elim (ho.1 b hb) (fun h2 => by have := (h.own.lt b hb).2; omega)
  · exact fun b hb hx => (S.grow b hx).elim ((ho.2 p hp).1 b hb) (fun h2 => by have := (h.low p hp b (.inl hb)).2.1; omega)
  · exact fun b hb hx => (S.grow b hx).elim ((ho.2 p hp).2 b hb) (fun h2 => by have := (h.low p hp b (.inr hb)).2.1; omega)
theorem OsOff.new {B : Nat} {W : World} {v : Value} {l : List OV} {X : Nat → Prop} (h : OsL B W v l) (hX : ∀ b, X b → b < B) : OsOff v l X :=
  ⟨fun b hb hx => by have := (h.own.lt b hb).1; have := hX b hx; omega, fun p hp => ⟨fun b hb hx => by have := (h.low p hp b (.inl hb)).1; have := hX b hx; omega, fun b hb hx => by have := (h.low p hp b (.inr hb)).1; have := hX b hx; omega⟩⟩
theorem OsOff.above {B : Nat} {W : World} {v : Value} {l : List OV} {X : Nat → Prop} (h : OsL B W v l) (hX : ∀ b, X b → W.heap.size ≤ b) : OsOff v l X :=
  ⟨fun b hb hx => by have := (h.own.lt b hb).2; have := hX b hx; omega, fun p hp => ⟨fun b hb hx => by have := (h.low p hp b (.inl hb)).2.1; have := hX b hx; omega, fun b hb hx => by have := (h.low p hp b (.inr hb)).2.1; have := hX b hx; omega⟩⟩
/-- A disk, a model, a list of operations. -/
structure PairX (B : Nat) (W : World) (p q : Nat) (X Y : Nat → Prop) (D E : Dk) (v : Value) (l : List OV) : Prop where
  d : DAt W p X D
  m : MAt W q Y E
  sep : Sep X Y
  os : ∃ b0, OsL b0 W v l
  ox : OsOff v l X
  oy : OsOff v l Y
  lx : ∀ b, X b → B ≤ b
  ly : ∀ b, Y b → B ≤ b
def Pair (B : Nat) (W : World) (p q : Nat) (D E : Dk) (v : Value) (l : List OV) : Prop := ∃ X Y, PairX B W p q X Y D E v l
section
variable {B : Nat} {W W' : World} {p q : Nat} {D E : Dk} {v : Value} {l : List OV}
theorem Pair.later (h : Pair B W p q D E v l) (hb : Below W.heap.size W W') : Pair B W' p q D E v l := by
  obtain ⟨X, Y, h⟩ := h
  obtain ⟨b0, ho⟩ := h.os
  exact ⟨X, Y, h.d.later hb, h.m.later hb, h.sep, ⟨b0, ho.later hb⟩, h.ox, h.oy, h.lx, h.ly⟩
theorem Pair.at {g n c : Nat} (h : Pair B W p q D E (.slice (some ⟨g, 0, none⟩) n c) l) {i : Nat} {o : OV} (hi : l[i]? = some o) :
    W.cell? ⟨g, i * 5, none⟩ = some (.int .i64 o.o.k) ∧ W.cell? ⟨g, i * 5 + 1, none⟩ = some (.int .i64 o.o.f) ∧ W.cell? ⟨g, i * 5 + 2, none⟩ = some (.int .i64 o.o.n) ∧ W.cell? ⟨g, i * 5 + 3, none⟩ = some o.bv ∧ W.cell? ⟨g, i * 5 + 4, none⟩ = some o.kv := by
  obtain ⟨X, Y, h⟩ := h
  obtain ⟨b0, ho⟩ := h.os
  have hc := ho.at hi
  exact ⟨hc 0 (by omega), hc 1 (by omega), hc 2 (by omega), hc 3 (by omega), hc 4 (by omega)⟩
theorem Pair.slice (h : Pair B W p q D E v l) : ∃ a c, v = .slice a l.length c := by
  obtain ⟨X, Y, h⟩ := h
  obtain ⟨b0, ho⟩ := h.os
  exact own_isSliceN ho.own
theorem Pair.slice1 (h : Pair B W p q D E v l) (hl : 0 < l.length) : ∃ g c, v = .slice (some ⟨g, 0, none⟩) l.length c := by
  obtain ⟨X, Y, h⟩ := h
  obtain ⟨b0, ho⟩ := h.os
  rcases ho.own.2 with ⟨_, e⟩ | ⟨g, cap, cur, e, _⟩
  · omega
  · exact ⟨g, cap, e⟩
theorem Pair.rd (h : Pair B W p q D E v l) {i : Nat} {o : OV} (hi : l[i]? = some o) : OvRd W o := by
  obtain ⟨X, Y, h⟩ := h
  obtain ⟨b0, ho⟩ := h.os
  exact ho.rd o (List.mem_of_getElem? hi)
theorem Pair.do (h : Pair B W p q D E v l) {i : Nat} {o : OV} (hi : l[i]? = some o) (hB : B ≤ W.heap.size) :
    Calls Try.prog 29 #[.pointer (some ⟨p, 0, none⟩), .agg #[.int .i64 o.o.k, .int .i64 o.o.f, .int .i64 o.o.n, o.bv, o.kv]] W fun e w' => e = .returned (.int .i64 (D.doOp o.o).1) ∧ Pair B w' p q (D.doOp o.o).2 E v l ∧ Below B W w' := by
  have hr := h.rd hi
  obtain ⟨X, Y, h⟩ := h
  have ho := h.ox.2 o (List.mem_of_getElem? hi)
  refine (do_any o W h.d hr ho.1 ho.2).mono ?_
  rintro e w' ⟨rfl, X', D', S⟩
  obtain ⟨b0, hos⟩ := h.os
  obtain ⟨h1, h2⟩ := hos.step2 S h.ox
  exact ⟨rfl, ⟨X', Y, D', h.m.other S h.sep, h.sep.step S h.m.yl, ⟨b0, h1⟩, h2, h.oy, S.ge hB h.lx, h.ly⟩, S.toBelow hB h.lx⟩
theorem Pair.mdo (h : Pair B W p q D E v l) {i : Nat} {o : OV} (hi : l[i]? = some o) (hB : B ≤ W.heap.size) :
    Calls Try.prog 30 #[.pointer (some ⟨q, 0, none⟩), .agg #[.int .i64 o.o.k, .int .i64 o.o.f, .int .i64 o.o.n, o.bv, o.kv]] W fun e w' => e = .returned (.int .i64 (E.doOp o.o).1) ∧ Pair B w' p q D (E.doOp o.o).2 v l ∧ Below B W w' := by
  have hr := h.rd hi
  obtain ⟨X, Y, h⟩ := h
  have ho := h.oy.2 o (List.mem_of_getElem? hi)
  refine (mdo_any o W h.m hr ho.1 ho.2).mono ?_
  rintro e w' ⟨rfl, Y', M', S⟩
  obtain ⟨b0, hos⟩ := h.os
  obtain ⟨h1, h2⟩ := hos.step2 S h.oy
  exact ⟨rfl, ⟨X, Y', h.d.other S h.sep.symm, M', (h.sep.symm.step S h.d.xl).symm, ⟨b0, h1⟩, h.ox, h2, h.lx, S.ge hB h.ly⟩, S.toBelow hB h.ly⟩
end
set_option maxRecDepth 20000 in
set_option maxHeartbeats 2000000 in
theorem made_any (room : Int) (v : Value) (l : List Int) (w : World) (hr : -9223372036854775808 ≤ room ∧ room ≤ 9223372036854775807) (hv : Rv w v l.length (l.map (Value.int .i64))) (hx : ∀ x ∈ l, -9223372036854775808 ≤ x ∧ x ≤ 9223372036854775807) :
    Calls Try.prog 22 #[.int .i64 room, v] w fun e w' => ∃ p q X Y D, e = .returned (.tuple #[.pointer (some ⟨p, 0, none⟩), .pointer (some ⟨q, 0, none⟩)]) ∧ DAt w' p X D ∧ MAt w' q Y D ∧ Sep X Y ∧ (∀ b, X b → w.heap.size ≤ b) ∧ (∀ b, Y b → w.heap.size ≤ b) ∧ Below w.heap.size w w' := by
  obtain ⟨av, cv, rfl, _, _⟩ := hv.opened
  have HR := Bx.mk hr
  have HX := Bx.mk hx
  clear hr hx
  go_enter Try.func22, Try.ntmps22
  go_wp2_with fail
  refine (around_nat room 40 (by omega) HR.out.1 HR.out.2 (by omega) _).mono ?_
  rintro e w1 ⟨n, hn, _, rfl, rfl⟩
  go_wp2_with fail
  refine (dnew _ (12 + (n : Int)) (by omega) (by omega)).mono ?_
  rintro e w1 ⟨p, X, rfl, D1, hX, B1⟩
  go_wp2_with fail
  refine (mnew_any (12 + (n : Int)) (by omega) (by omega) w1).mono ?_
  rintro e w2 ⟨q, Y, rfl, M2, hY, B2⟩
  have D2 := D1.later B2
  have B2' := bel B1 B2
  go_wp2_with fail
  refine (ops_any _ l w2 (hv.below B2') HX.out).mono ?_
  rintro e w3 ⟨v3, L, rfl, O3, hL, B3⟩
  have B3' := bel B2' B3
  have hs2 := B2'.size
  have hs1 := B1.size
  have P3 : Pair w.heap.size w3 p q (newD (12 + (n : Int))) (newD (12 + (n : Int))) v3 L := ⟨X, Y, D2.later B3, M2.later B3, fun b hx hy => by
    have h1 := D1.xl b hx
    have h2 := hY b hy
    omega, ⟨_, O3⟩, OsOff.new O3 D2.xl, OsOff.new O3 M2.yl, hX, fun b hb => by have := hY b hb; omega⟩
  obtain ⟨a3, c3, rfl⟩ := P3.slice
  obtain ⟨Ln, hLn⟩ : ∃ n, L.length = n := ⟨_, rfl⟩
  rw [hLn] at P3 hL ⊢
  have HL := Bx.mk hLn
  clear D1 hX B1 M2 hY B2 D2 B2' O3 B3 hLn hs1 hs2 hn
  go_wp2_with fail
  go_loopw [11] (fun u W => ∃ (i : Nat) (D : Dk), u = .int .i64 (i : Int) ∧ i ≤ Ln ∧ Pair w.heap.size W p q D D (.slice a3 Ln c3) L ∧ Below w.heap.size w W) (fun u _ => Ln - (intOf u).toNat)
  case atStart => exact ⟨0, _, rfl, Nat.zero_le _, P3, B3'⟩
  case round =>
    rename World => W
    obtain ⟨i, D, rfl, hi, P, B⟩ := hrel
    by_cases hlt : i < Ln
    · have hlti : (i : Int) < (Ln : Int) := by omega
      obtain ⟨o, ho⟩ : ∃ o, L[i]? = some o := ⟨_, List.getElem?_eq_getElem (by rw [HL.out]; exact hlt)⟩
      obtain ⟨g, c, e⟩ := P.slice1 (by rw [HL.out]; omega)
      injection e with e1 e2 e3
      clear e2
      subst e1
      obtain ⟨k0, k1, k2, k3, k4⟩ := P.at ho
      have HO := Bx.mk ho
      clear ho e3
      go_wp2_with fail
      refine (P.do HO.out B.size).mono ?_
      rintro e w4 ⟨rfl, P4, B4⟩
      have B4' := B.trans B4
      obtain ⟨k0, k1, k2, k3, k4⟩ := P4.at HO.out
      go_wp2_with fail
      refine (P4.mdo HO.out B4'.size).mono ?_
      rintro e w5 ⟨rfl, P5, B5⟩
      have B5' := B4'.trans B5
      clear P P4 B4 B4' B5 k0 k1 k2 k3 k4
      go_wp2_with fail
      go_roundw
      case rel => exact ⟨i + 1, _, by simp, hlt, P5, B5'⟩
      case measure => simp [intOf]; omega
    · obtain ⟨X, Y, P⟩ := P
      go_wp2_with fail
      go_ret2
      exact ⟨p, q, X, Y, D, rfl, P.d, P.m, P.sep, P.lx, P.ly, B⟩
end Go.Proofs.Ytmofakcpldbbmaa
