/- A value of the law package (rexmillref02.Val) and its writing. -/
import Derived.Test.YtofgcoapbocneaaLaw2c
import Derived.Test.YtofgcoapbocneaaRefW
namespace Go.Proofs.Ytofgcoapbocneaa
open Go.RowKit

/-- A value: kind, unsigned, signed, bytes, list. -/
structure V where
  k : Int
  u : Nat
  n : Int
  b : List UInt8
  l : List Int

def V.enc (m : V) : List UInt8 :=
  if m.k = 0 then uvar m.u else if m.k = 1 then zvar m.n else if m.k = 2 then [if m.n = 1 then 1 else 0] else if m.k = 3 ∨ m.k = 4 then rawW m.b else intsW m.l
structure V.Ok (m : V) : Prop where
  u : m.u < 18446744073709551616
  n : -9223372036854775808 ≤ m.n ∧ m.n ≤ 9223372036854775807
  b : m.b.length ≤ 100000
  l : m.l.length ≤ 100000
  r : ∀ x ∈ m.l, -9223372036854775808 ≤ x ∧ x ≤ 9223372036854775807

/-- The struct's value. -/
def V.val (m : V) (vb vl : Value) : Value := .agg #[.int .i64 m.k, .int .u64 (m.u : Int), .int .i64 m.n, vb, vl]

/-- Its rows can be read and lie below block B. -/
structure RvV (w : World) (B : Nat) (m : V) (vb vl : Value) : Prop where
  b : Rv w vb m.b.length (m.b.map vB)
  l : Rv w vl m.l.length (m.l.map (Value.int .i64))
  bl : Low B vb
  ll : Low B vl

theorem Rv.belowb {w w' : World} {b : Nat} {v : Value} {n : Nat} {us : List Value} (h : Rv w v n us) (hs : Below b w w') (hv : Low b v) : Rv w' v n us := by
  obtain ⟨ao, cap, rfl, h2, h3, h4, h5⟩ := h
  refine ⟨ao, cap, rfl, h2, h3, h4, ?_⟩
  rcases h5 with h5 | ⟨g, off, rfl, h5⟩
  · exact .inl h5
  · refine .inr ⟨g, off, rfl, fun i u hi => ?_⟩
    have hb := hs.block g (hv g rfl)
    rw [← h5 i u hi]
    simp only [World.cell?, hb]
theorem RvV.belowb {w w' : World} {B : Nat} {m : V} {vb vl : Value} (h : RvV w B m vb vl) (hs : Below B w w') : RvV w' B m vb vl :=
  ⟨h.b.belowb hs h.bl, h.l.belowb hs h.ll, h.bl, h.ll⟩

theorem WStep.of_alloc {w w' : World} {o : Obj} {b : Nat} {v v' : Value} (h : WStep (w.alloc o) w' b v v') : WStep w w' b v v' := by
  refine ⟨h.os, h.tape, h.output, by have := h.size; simp at this; omega, fun k hk hb hv => (h.block k (by simp; omega) hb hv).trans (Below.heap_alloc _ _ _ hk), ?_⟩
  rcases h.own with e | e
  · exact .inl e
  · exact .inr fun g hg => by have := e g hg; simp at this; omega
theorem Wr.alloc {w : World} {b : Nat} {v : Value} {bs : List UInt8} (h : Wr w b v bs) (o : Obj) : Wr (w.alloc o) b v bs := h.later ((Below.refl _ w).alloc (Nat.le_refl _) o)

set_option maxHeartbeats 2000000 in
theorem write_any (b : Nat) (v : Value) (bs : List UInt8) (m : V) (hm : m.Ok) (vb vl : Value) (w : World) (hW : Wr w b v bs) (hv : RvV w b m vb vl) (hl : bs.length ≤ 1000000000) :
    Calls Try.prog 34 #[.pointer (some ⟨b, 0, none⟩), m.val vb vl] w (WPost w b v (bs ++ m.enc)) := by
  obtain ⟨k, u, n, mb, ml⟩ := m
  have hu := Lib.hid hm.u
  have hn := Lib.hid hm.n
  have hb := Lib.hid hm.b
  have hml := Lib.hid hm.l
  have hr := Lib.hid hm.r
  clear hm
  unfold V.val
  simp only at hu hn hb hml hr hv ⊢
  by_cases h0 : k = 0
  · subst h0
    go_enter Try.func34, Try.ntmps34
    go_wp2_with fail
    refine (wuint_any b v bs u _ (hW.alloc _) hu.out (by omega)).mono ?_
    rintro e w1 ⟨v1, rfl, W1, S1⟩
    go_wp2_with fail
    go_end0
    exact ⟨v1, rfl, W1, S1.of_alloc⟩
  · have q0 : (k == 0) = false := beq_eq_false_iff_ne.2 h0
    by_cases h1 : k = 1
    · subst h1
      go_enter Try.func34, Try.ntmps34
      go_wp2_with fail
      refine (wint_any b v bs n _ (hW.alloc _) hn.out.1 hn.out.2 (by omega)).mono ?_
      rintro e w1 ⟨v1, rfl, W1, S1⟩
      go_wp2_with fail
      go_end0
      exact ⟨v1, rfl, W1, S1.of_alloc⟩
    · have q1 : (k == 1) = false := beq_eq_false_iff_ne.2 h1
      by_cases h2 : k = 2
      · subst h2
        go_enter Try.func34, Try.ntmps34
        go_wp2_with fail
        refine (wbool_any b v bs (n == 1) _ (hW.alloc _) (by omega)).mono ?_
        rintro e w1 ⟨v1, rfl, W1, S1⟩
        go_wp2_with fail
        go_end0
        refine ⟨v1, rfl, ?_, S1.of_alloc⟩
        simpa [V.enc] using W1
      · have q2 : (k == 2) = false := beq_eq_false_iff_ne.2 h2
        by_cases h3 : k = 3
        · subst h3
          have hcv := run_tostring (w.alloc (.cells #[.int .i64 3, .int .u64 (u : Int), .int .i64 n, vb, vl] 47)) _ _ _ Try.underlying24 Try.underlying5 Try.underlying9 vb mb (hv.b.below ((Below.refl _ w).alloc (Nat.le_refl _) _))
          go_enter Try.func34, Try.ntmps34
          go_wp2_with fail
          refine (wtext_any b v bs ⟨mb.toArray⟩ _ (hW.alloc _) (by have := hb.out; show bs.length + mb.toArray.toList.length ≤ _; simp; omega)).mono ?_
          rintro e w1 ⟨v1, rfl, W1, S1⟩
          go_wp2_with fail
          go_end0
          exact ⟨v1, rfl, W1, S1.of_alloc⟩
        · have q3 : (k == 3) = false := beq_eq_false_iff_ne.2 h3
          by_cases h4 : k = 4
          · subst h4
            go_enter Try.func34, Try.ntmps34
            go_wp2_with fail
            refine (wraw_any b v bs vb mb _ (hW.alloc _) (hv.b.below ((Below.refl _ w).alloc (Nat.le_refl _) _)) (fun w' v' S => hv.b.belowb ((S.of_alloc).below hW) hv.bl) (by have := hb.out; omega)).mono ?_
            rintro e w1 ⟨v1, rfl, W1, S1⟩
            go_wp2_with fail
            go_end0
            exact ⟨v1, rfl, W1, S1.of_alloc⟩
          · have q4 : (k == 4) = false := beq_eq_false_iff_ne.2 h4
            have he : V.enc ⟨k, u, n, mb, ml⟩ = intsW ml := by simp [V.enc, h0, h1, h2, h3, h4]
            rw [he]
            go_enter Try.func34, Try.ntmps34
            go_wp2_with fail
            refine (wints_any b v bs vl ml _ (hW.alloc _) (hv.l.below ((Below.refl _ w).alloc (Nat.le_refl _) _)) (fun w' v' S => hv.l.belowb ((S.of_alloc).below hW) hv.ll) hr.out (by have := hml.out; omega)).mono ?_
            rintro e w1 ⟨v1, rfl, W1, S1⟩
            go_wp2_with fail
            go_end0
            exact ⟨v1, rfl, W1, S1.of_alloc⟩
end Go.Proofs.Ytofgcoapbocneaa
