/- Package journal: Open. -/
import Derived.Test.YtpehnggglolnoaaJlA
import Derived.Test.YtpehnggglolnoaaDkP
namespace Go.Proofs.Ytpehnggglolnoaa
open Go.RowKit

/-- A list of byte slices that is the call's own, apart from X. -/
structure LsX (w : World) (X : Nat → Prop) (base : Nat) (v : Value) (us : List Value) (L : List (List UInt8)) : Prop where
  o : LsO w base v us L
  off : Off v X
  offs : ∀ u ∈ us, Off u X
section
variable {w w' : World} {p q : Nat} {f : Int} {g : Lg} {X X' X1 : Nat → Prop} {D : Dk} {base : Nat} {v : Value} {us : List Value} {L : List (List UInt8)}
theorem LsX.step (h : LsX w X base v us L) (S : DStep X X' w w') : LsX w' X' base v us L :=
  ⟨⟨own_step h.o.own S h.off, h.o.one, fun i hi u hu => rv_step (h.o.rd i hi u hu) S (h.offs u (List.mem_of_getElem? hu)), fun u hu => (h.o.low u hu).mono S.size, h.o.far⟩, h.off.step S h.o.own, fun u hu b hb hx => (S.grow b hx).elim (h.offs u hu b hb) (fun h1 => by have := h.o.low u hu b hb; omega)⟩
theorem LsX.later (h : LsX w X base v us L) (B : Below w.heap.size w w') : LsX w' X base v us L := ⟨h.o.below B, h.off, h.offs⟩
theorem LsX.ls (h : LsX w X base v us L) : LsB w v L := h.o.ls
/-- Beside a block that came later. -/
theorem LsX.add (h : LsX w X base v us L) {q : Nat} (hq : w.heap.size ≤ q) : LsX w (fun b => X b ∨ b = q) base v us L :=
  ⟨h.o, fun b hb hx => hx.elim (h.off b hb) (fun e => by have := (h.o.own.lt b hb).2; omega), fun u hu b hb hx => hx.elim (h.offs u hu b hb) (fun e => by have := h.o.low u hu b hb; omega)⟩
theorem LsX.less (h : LsX w X base v us L) (hX : ∀ b, X' b → X b) : LsX w X' base v us L := ⟨h.o, fun b hb hx => h.off b hb (hX b hx), fun u hu b hb hx => h.offs u hu b hb (hX b hx)⟩
/-- A list that came later than X. -/
theorem LsX.of {N : Nat} (h : LsO w base v us L) (hb : N ≤ base) (hu : ∀ u ∈ us, ∀ g, u.ownBlock = some g → N ≤ g) (hX : ∀ b, X b → b < N) : LsX w X base v us L :=
  ⟨h, fun b hv hx => by have := (h.own.lt b hv).1; have := hX b hx; omega, fun u hu2 b hv hx => by have := hu u hu2 b hv; have := hX b hx; omega⟩
end
theorem read_ok {D : Dk} {f : Int} (h : (D.read f).2 = 0) : D.read f = ((D.fs f).1, 0) := by
  unfold Dk.read at h ⊢
  split
  · rename_i h1; rw [if_pos h1] at h; cases h
  · rename_i h1
    rw [if_neg h1] at h
    split
    · rename_i h2; rw [if_pos h2] at h; cases h
    · rfl
/-- What Open returns. -/
def OpenPost (w : World) (p : Nat) (X : Nat → Prop) (D : Dk) (f : Int) (en : Ending) (w' : World) : Prop :=
  ∃ X', DAt w' p X' (D.logOpen f).2.1 ∧ DStep X X' w w' ∧
    ((D.logOpen f).1 = 0 ∧ (∃ q v us, en = .returned (.tuple #[.pointer (some ⟨q, 0, none⟩), v, .int .i64 0]) ∧ LgAt w' q p f ⟨(D.logOpen f).2.2.length, false⟩ ∧ w.heap.size ≤ q ∧ ¬ X' q ∧ LsX w' (fun b => (X' b ∨ b = q) ∨ b < w.heap.size) w.heap.size v us (D.logOpen f).2.2) ∨
      (D.logOpen f).1 ≠ 0 ∧ en = .returned (.tuple #[.pointer none, .slice none 0 0, .int .i64 (D.logOpen f).1]))

theorem open_end {w W : World} {p k : Nat} {f : Int} {X X3 : Nat → Prop} {G : Dk} {v : Value} {us : List Value} {K : List (List UInt8)} {O : Int × Dk × List (List UInt8)} (hO : (0, G, K) = O) (hD : DAt W p X3 G) (S : DStep X X3 w W) (L : LsX W (fun b => X3 b ∨ b < k) k v us K) (hk : w.heap.size ≤ k) :
    ∃ X', DAt (W.alloc (lgO p f ⟨K.length, false⟩)) p X' O.2.1 ∧ DStep X X' w (W.alloc (lgO p f ⟨K.length, false⟩)) ∧
    (O.1 = 0 ∧ (∃ q v' us', Ending.returned (.tuple #[.pointer (some ⟨W.heap.size, 0, none⟩), v, .int .i64 0]) = .returned (.tuple #[.pointer (some ⟨q, 0, none⟩), v', .int .i64 0]) ∧ LgAt (W.alloc (lgO p f ⟨K.length, false⟩)) q p f ⟨O.2.2.length, false⟩ ∧ w.heap.size ≤ q ∧ ¬ X' q ∧ LsX (W.alloc (lgO p f ⟨K.length, false⟩)) (fun b => (X' b ∨ b = q) ∨ b < w.heap.size) w.heap.size v' us' O.2.2) ∨
      O.1 ≠ 0 ∧ Ending.returned (.tuple #[.pointer (some ⟨W.heap.size, 0, none⟩), v, .int .i64 0]) = .returned (.tuple #[.pointer none, .slice none 0 0, .int .i64 O.1])) := by
  subst hO
  have B := (Below.refl W.heap.size W).alloc (Nat.le_refl _) (lgO p f ⟨K.length, false⟩)
  refine ⟨X3, hD.later B, S.trans (DStep.ofBelow X3 B), .inl ⟨rfl, W.heap.size, v, us, rfl, ⟨World.alloc_heap_new W _⟩, S.size, fun hx => by have := hD.xl _ hx; omega, ?_⟩⟩
  have L1 := (L.add (q := W.heap.size) (Nat.le_refl _)).later B
  have L2 := L1.less (X' := fun b => (X3 b ∨ b = W.heap.size) ∨ b < w.heap.size) (fun b hb => hb.elim (fun h => h.elim (fun h => .inl (.inl h)) .inr) (fun h => .inl (.inr (by omega))))
  exact ⟨L2.o.based hk, L2.off, L2.offs⟩

theorem open_nil (f : Int) (w : World) : Calls Try.prog 11 #[.pointer none, .int .i64 f] w fun e w' => e = .returned (.tuple #[.pointer none, .slice none 0 0, .int .i64 1]) ∧ w = w' := by
  go_enter Try.func11, Try.ntmps11
  go_wp2
  go_ret3
  exact ⟨rfl, rfl⟩

set_option maxRecDepth 20000 in
set_option maxHeartbeats 1000000 in
theorem lgopen_any (f : Int) (w : World) {p : Nat} {X : Nat → Prop} {D : Dk} (h : DAt w p X D) :
    Calls Try.prog 11 #[.pointer (some ⟨p, 0, none⟩), .int .i64 f] w (OpenPost w p X D f) := by
  have hok := h.ok
  obtain ⟨O, hO⟩ : ∃ O, D.logOpen f = O := ⟨_, rfl⟩
  unfold OpenPost
  rw [hO]
  unfold Dk.logOpen at hO
  have HO := Bx.mk hO
  clear hO
  go_enter Try.func11, Try.ntmps11
  go_wp2_with fail
  refine (dread w f h).mono ?_
  rintro e w1 ⟨v1, rfl, O1, B1⟩
  have D1 := h.later B1
  by_cases hr : (D.read f).2 = 0
  · have hr2 := read_ok hr
    have hl := hok.flen f
    have hO := HO.out
    rw [if_neg (by rw [hr]; simp)] at hO
    rw [hr2] at O1 ⊢
    obtain ⟨bs, hbs⟩ : ∃ b, (D.fs f).1 = b := ⟨_, rfl⟩
    unfold Dk.openT at hO
    rw [hbs] at O1 hl hO
    have HO := Bx.mk hO
    obtain ⟨a1, c1, rfl⟩ := own_isSlice O1
    have hs1 := scanJ_len bs.length 0 bs
    change (scanL bs).2 ≤ _ ∧ (scanL bs).1.length ≤ (scanL bs).2 at hs1
    clear hr hr2 hO hbs
    go_wp2_with fail
    refine (scan_anyG _ bs w1 (Rv.of_own O1) (by omega)).mono ?_
    rintro e w2 ⟨v2, us2, rfl, L2, U2, B2⟩
    obtain ⟨q, hq⟩ : ∃ q, scanL bs = q := ⟨_, rfl⟩
    have hO := HO.out
    rw [hq] at L2 hs1 hO ⊢
    have HO := Bx.mk hO
    have D2 := D1.later B2
    have L2 := LsX.of (X := fun b => X b ∨ b < w1.heap.size) L2 (Nat.le_refl _) U2 (fun b hb => hb.elim (D1.xl b) id)
    have S2 := (DStep.ofBelow X B1).trans (DStep.ofBelow X B2)
    have hk1 := B1.size
    obtain ⟨m, hm⟩ : ∃ m, bs.length = m := ⟨_, rfl⟩
    obtain ⟨n, hn⟩ : ∃ n, q.2 = n := ⟨_, rfl⟩
    obtain ⟨k2, a2, c2, rfl⟩ := own_shape L2.o.own
    obtain rfl : k2 = q.1.length := own_k L2.o.own
    have hO := HO.out
    rw [hm, hn] at hO
    rw [hm] at hs1 hl ⊢
    rw [hn] at hs1 ⊢
    have HO := Bx.mk hO
    have hql : (q.1.length : Int) ≤ 16777216 := by omega
    have hml : (m : Int) ≤ 16777216 := by omega
    have hnl : (n : Int) ≤ (m : Int) := by omega
    clear hO hq hm hn O1 U2 B1 B2 h D1
    by_cases hlt : n < m
    · go_wp2_with fail
      refine (dtrunc w2 f (n : Int) (by omega) D2).mono ?_
      rintro e w3 ⟨rfl, X3, D3, S3⟩
      obtain ⟨⟨r, E⟩, hT⟩ : ∃ T, D.trunc f (n : Int) = T := ⟨_, rfl⟩
      have hO := HO.out
      rw [if_pos hlt, hT] at hO
      rw [hT] at D3 ⊢
      change DAt w3 p X3 E at D3
      change (if r ≠ 0 then (r, E, []) else if E.sync.1 ≠ 0 then (E.sync.1, E.sync.2, []) else (0, E.sync.2, q.1)) = O at hO
      have HO := Bx.mk hO
      have L3 := L2.step (S3.wide fun b => b < w1.heap.size)
      have S3 := S2.trans S3
      clear hO hT D2 L2 S2
      by_cases hr : r = 0
      · subst hr
        have hO := HO.out
        rw [if_neg (by simp)] at hO
        have HO := Bx.mk hO
        clear hO
        go_wp2_with fail
        refine (dsync w3 D3).mono ?_
        rintro e w4 ⟨rfl, D4, S4⟩
        obtain ⟨⟨r, G⟩, hG⟩ : ∃ A, E.sync = A := ⟨_, rfl⟩
        have hO := HO.out
        rw [hG] at hO D4 ⊢
        change DAt w4 p X3 G at D4
        change (if r ≠ 0 then (r, G, []) else (0, G, q.1)) = O at hO
        have L4 := L3.step (S4.wide fun b => b < w1.heap.size)
        have S4 := S3.trans S4
        have HO := Bx.mk hO
        clear hO hG D3 L3 S3
        by_cases hr : r = 0
        · subst hr
          have hO := HO.out
          rw [if_neg (by simp)] at hO
          have HO := Bx.mk hO
          clear hO
          go_wp2_with fail
          go_ret3
          exact open_end HO.out D4 S4 L4 hk1
        · have hO := HO.out
          rw [if_pos hr] at hO
          go_wp2_with fail
          go_ret3
          rw [← hO]
          exact ⟨X3, D4, S4, .inr ⟨hr, rfl⟩⟩
      · have hO := HO.out
        rw [if_pos hr] at hO
        go_wp2_with fail
        go_ret3
        rw [← hO]
        exact ⟨X3, D3, S3, .inr ⟨hr, rfl⟩⟩
    · have hO := HO.out
      rw [if_neg hlt, if_neg (by simp)] at hO
      have HO := Bx.mk hO
      clear hO
      go_wp2_with fail
      refine (dsync w2 D2).mono ?_
      rintro e w4 ⟨rfl, D4, S4⟩
      obtain ⟨⟨r, G⟩, hG⟩ : ∃ A, D.sync = A := ⟨_, rfl⟩
      have hO := HO.out
      change (if D.sync.1 ≠ 0 then (D.sync.1, D.sync.2, []) else (0, D.sync.2, q.1)) = O at hO
      rw [hG] at hO D4 ⊢
      change DAt w4 p X G at D4
      change (if r ≠ 0 then (r, G, []) else (0, G, q.1)) = O at hO
      have L4 := L2.step (S4.wide fun b => b < w1.heap.size)
      have S4 := S2.trans S4
      have HO := Bx.mk hO
      clear hO hG D2 L2 S2
      by_cases hr : r = 0
      · subst hr
        have hO := HO.out
        rw [if_neg (by simp)] at hO
        have HO := Bx.mk hO
        clear hO
        go_wp2_with fail
        go_ret3
        exact open_end HO.out D4 S4 L4 hk1
      · have hO := HO.out
        rw [if_pos hr] at hO
        go_wp2_with fail
        go_ret3
        rw [← hO]
        exact ⟨X, D4, S4, .inr ⟨hr, rfl⟩⟩
  · have hO := HO.out
    rw [if_pos hr] at hO
    obtain ⟨r, hr1⟩ : ∃ r, (D.read f).2 = r := ⟨_, rfl⟩
    rw [hr1] at hr hO ⊢
    obtain ⟨a1, c1, rfl⟩ := own_isSlice O1
    go_wp2_with fail
    go_ret3
    rw [← hO]
    exact ⟨X, D1, DStep.ofBelow X B1, .inr ⟨hr, rfl⟩⟩
end Go.Proofs.Ytpehnggglolnoaa
