/- Package disk: Read, Truncate. -/
import Derived.Test.YtmofakcpldbbmaaDoorDskD
namespace Go.Proofs.YtmofakcpldbbmaaDoor
open Go.RowKit

set_option maxRecDepth 20000 in
set_option maxHeartbeats 1000000 in
theorem cloneB_any (v : Value) (l : List UInt8) (w : World) (hv : Rv w v l.length (l.map vB)) (hl : l.length ≤ 1000000000) :
    Calls Tryd.prog 23 #[v] w (RetMade w 5 (l.map vB)) := by
  obtain ⟨ao, cap, rfl, hcap, hrd⟩ := hv.opened
  have hnil : ∀ (a : Option Addr) (n c : Nat), (binOp .eql 28 (.slice a n c) (.slice none 0 0)).run Tryd.prog w = .ok (.bool a.isNone) w := fun a n c => Lib.run_eql_slice_nil w _ _ a n c 0 0 Tryd.underlying28
  go_enter Tryd.func23, Tryd.ntmps23
  cases ao with
  | none =>
    have hn : l = [] := by
      obtain ⟨_, _, e, _, _, h0, _⟩ := hv
      cases e
      have := h0 rfl
      exact List.eq_nil_of_length_eq_zero (by omega)
    subst hn
    obtain ⟨_, _, e, _, _, h0, _⟩ := hv
    cases e
    obtain rfl := h0 rfl
    go_wp2_with fail
    go_ret
    exact retMade (World.ownsRow_nil _ _ _ _) rfl (Below.refl _ _)
  | some a =>
    go_wp2_with (at_builtin; refine wpList_app _ rfl _ _ rfl Tryd.elB w.heap.size _ 0 _ rfl (own_empty w _) _ l.length _ rfl (hv.below ((Below.refl _ _).alloc (Nat.le_refl _) _)) (by simp) (ones_B _) (by omega) (by simp) ?_; intro v2 w2 hown hg _)
    go_ret
    exact retMade hown (by simp) (((Below.refl _ w).alloc (Nat.le_refl _) _).grown hg (by simp) (fun g hg' => by cases hg'; exact Nat.le_refl _))
def Dk.read (D : Dk) (k : Int) : List UInt8 × Int := if ¬ (0 ≤ k ∧ k < 64) then ([], 1) else if D.off then ([], 19) else ((D.fs k).1, 0)
set_option maxRecDepth 10000 in
set_option maxHeartbeats 1000000 in
theorem read_any (k : Int) (w : World) {p mb : Nat} {F : Int → Option Value} {ks : List Int} {X : Nat → Prop} {D : Dk} (h : DiskAt w p mb F ks X D) :
    Calls Tryd.prog 12 #[.pointer (some ⟨p, 0, none⟩), .int .i64 k] w fun e w' => ∃ v, e = .returned (.tuple #[v, .int .i64 (D.read k).2]) ∧ Made w w' 5 v ((D.read k).1.map vB) := by
  have c3 := h.c3
  have HH := Lib.hid h
  obtain ⟨a, c, hlook, hown, hblk⟩ := h.old k
  have hlk := h.look2 k hlook w rfl
  have c2 := h.c2
  have hu := h.used
  have hr := h.room
  have hul := fun hk : 0 ≤ k ∧ k < 64 => D.le_used k hk.1 hk.2
  have HUL := Lib.hid hul
  have HRU := Lib.hid (And.intro hu hr)
  obtain ⟨du, hdu⟩ : ∃ d, (D.fs k).2 = d := ⟨_, rfl⟩
  obtain ⟨bs, hbs⟩ : ∃ x, (D.fs k).1 = x := ⟨_, rfl⟩
  rw [hbs] at hown
  rw [hdu, hbs] at hlk
  have HBS := Lib.hid hbs
  have hfd := Tryd.field0 a bs.length c (du : Int)
  clear h hul hu hr hlook hblk hbs hdu
  go_enter Tryd.func12, Tryd.ntmps12
  go_wp2_with fail
  refine (exists_any k _).mono ?_
  rintro e w1 ⟨rfl, rfl⟩
  by_cases hk : 0 ≤ k ∧ k < 64
  · rw [decide_eq_true hk]
    cases ho : D.off
    · rw [ho] at c3
      have hbl : bs.length ≤ 1000000000 := by
        have h1 := HUL.out hk
        rw [HBS.out] at h1
        have h2 := HRU.out
        omega
      go_wp2_with fail
      refine (cloneB_any (.slice a bs.length c) bs w (Rv.of_own hown) hbl).mono ?_
      rintro e w2 ⟨v, rfl, M⟩
      go_wp2_with fail
      go_ret2
      unfold Dk.read
      rw [if_neg (by simpa using hk), ho, if_neg (by simp), HBS.out]
      exact ⟨v, rfl, M⟩
    · rw [ho] at c3
      go_wp2_with fail
      go_ret2
      unfold Dk.read
      rw [if_neg (by simpa using hk), ho, if_pos rfl]
      exact ⟨_, rfl, World.ownsRow_nil _ _ _ _, Below.refl _ _⟩
  · rw [decide_eq_false hk]
    go_wp2_with fail
    go_ret2
    unfold Dk.read
    rw [if_pos hk]
    exact ⟨_, rfl, World.ownsRow_nil _ _ _ _, Below.refl _ _⟩
theorem DStep.ofQ {X Y : Nat → Prop} {w w2 w3 w7 : World} {p mb : Nat} (S : DStep X X w w2) (B : Below w2.heap.size w2 w3) (Q : QStep p mb w3 w7) (hp : X p) (hm : X mb) (hY : ∀ x, Y x → X x) : DStep X Y w w7 :=
  ⟨Q.os.trans (B.os.trans S.os), Q.tape.trans (B.tape.trans S.tape), Q.output.trans (B.output.trans S.output), Nat.le_trans S.size (Nat.le_trans B.size Q.size), fun x hx hX =>
    (Q.block x (Nat.lt_of_lt_of_le hx (Nat.le_trans S.size B.size)) (fun e => hX (by rw [e]; exact hp)) (fun e => hX (by rw [e]; exact hm))).trans ((B.block x (Nat.lt_of_lt_of_le hx S.size)).trans (S.block x hx hX)), fun x hx => .inl (hY x hx)⟩
theorem own_cut {w : World} {base : Nat} {e : TypeId} {a : Option Addr} {n c : Nat} {xs : List Value} (h : w.ownsRow base e 1 (.slice a n c) n xs) (s : Nat) (hs : s ≤ n) : w.ownsRow base e 1 (.slice a s c) s (xs.take s) := by
  obtain ⟨hl, ⟨h0, hx⟩ | ⟨g, cap, cur, he, hb, hg, hn, hc, hz, ht⟩⟩ := h
  · injection h0 with h1 h2 h3
    subst h1 h3
    obtain rfl : s = 0 := by omega
    rw [List.take_zero]
    exact World.ownsRow_nil _ _ _ _
  · injection he with h1 h2 h3
    subst h1 h3
    refine ⟨by rw [List.length_take]; omega, .inr ⟨g, c, cur, rfl, hb, hg, by omega, hc, hz, ?_⟩⟩
    rw [← ht, List.take_take]
    congr 1
    omega
def Dk.trunc (D : Dk) (k : Int) (s : Int) : Int × Dk :=
  if ¬ (0 ≤ k ∧ k < 64) ∨ s < 0 ∨ ((D.fs k).1.length : Int) < s then (1, D) else if D.off then (19, D) else if D.failsB then (19, D.fails) else (0, D.fails.put k ((D.fs k).1.take s.toNat) (min (D.fs k).2 s.toNat))
end Go.Proofs.YtmofakcpldbbmaaDoor
