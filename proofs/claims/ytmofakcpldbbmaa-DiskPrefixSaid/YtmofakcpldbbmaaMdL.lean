/- do, on the disk and on its model. -/
import Derived.Test.YtmofakcpldbbmaaMdK
namespace Go.Proofs.Ytmofakcpldbbmaa
open Go.RowKit

def Dk.doOp (D : Dk) (o : OpD) : Int × Dk :=
  if o.k = 0 then D.append o.f o.b else if o.k = 1 then D.sync else if o.k = 2 then D.trunc o.f o.n else if o.k = 3 then (0, D.arm o.n) else (0, D.crash o.keep o.n)
def opO (k f n : Int) (b kv : Value) : Obj := .cells #[.int .i64 k, .int .i64 f, .int .i64 n, b, kv] 56 (0, 0)
set_option maxRecDepth 20000 in
set_option maxHeartbeats 2000000 in
theorem do_any (q : OV) (w : World) {p : Nat} {X : Nat → Prop} {D : Dk} (h : DAt w p X D) (hq : OvRd w q) (hb : Off q.bv X) (hk : Off q.kv X) :
    Calls Try.prog 29 #[.pointer (some ⟨p, 0, none⟩), .agg #[.int .i64 q.o.k, .int .i64 q.o.f, .int .i64 q.o.n, q.bv, q.kv]] w fun e w' => e = .returned (.int .i64 (D.doOp q.o).1) ∧ ∃ X', DAt w' p X' (D.doOp q.o).2 ∧ DStep X X' w w' := by
  obtain ⟨⟨k0, f0, m0, bb, kk⟩, bv, kv⟩ := q
  obtain ⟨ab, cb, eb, _, _⟩ := hq.b.opened
  obtain ⟨ak, ck, ek, _, _⟩ := hq.keep.opened
  simp only at eb ek
  obtain ⟨lb, hlb⟩ : ∃ n, bb.length = n := ⟨_, rfl⟩
  obtain ⟨lk, hlk⟩ : ∃ n, kk.length = n := ⟨_, rfl⟩
  rw [hlb] at eb
  rw [hlk] at ek
  have HLB := Bx.mk hlb
  have HLK := Bx.mk hlk
  clear hlb hlk
  subst eb ek
  simp only at hb hk ⊢
  obtain ⟨R, hR⟩ : ∃ R, D.doOp ⟨k0, f0, m0, bb, kk⟩ = R := ⟨_, rfl⟩
  rw [hR]
  unfold Dk.doOp at hR
  simp only at hR
  have BA := (Below.refl w.heap.size w).alloc (Nat.le_refl _) (opO k0 f0 m0 (.slice ab lb cb) (.slice ak lk ck))
  have hblk := World.alloc_heap_new w (opO k0 f0 m0 (.slice ab lb cb) (.slice ak lk ck))
  have h1 := h.later BA
  have hq1 := hq.below BA
  have S1 := DStep.ofBelow X BA
  have hn1 := hq.ok.n
  have hb1 := hq.ok.b
  have hkp := hq.ok.keep
  simp only at hn1 hb1 hkp
  have HRB := Bx.mk hq1.b
  have HRK := Bx.mk hq1.keep
  have HOB := Bx.mk hb
  have HOKE := Bx.mk hk
  have HKP := Bx.mk hkp
  have HD := Bx.mk h1
  clear h h1 hq hq1 hb hk BA hkp
  go_enter Try.func29, Try.ntmps29
  go_upto_region 1 with fail
  have e1 : (w.alloc (.cells #[.int .i64 k0, .int .i64 f0, .int .i64 m0, .slice ab lb cb, .slice ak lk ck] 56)) = w.alloc (opO k0 f0 m0 (.slice ab lb cb) (.slice ak lk ck)) := rfl
  rw [e1]
  clear e1
  generalize w.alloc (opO k0 f0 m0 (.slice ab lb cb) (.slice ak lk ck)) = w1 at hblk HD HRB HRK S1 ⊢
  generalize w.heap.size = H at hblk ⊢
  unfold opO at hblk
  have q0 : w1.cell? ⟨H, 0, none⟩ = some (.int .i64 k0) := by simp [World.cell?, hblk]
  have q1 : w1.cell? ⟨H, 1, none⟩ = some (.int .i64 f0) := by simp [World.cell?, hblk]
  have q2 : w1.cell? ⟨H, 2, none⟩ = some (.int .i64 m0) := by simp [World.cell?, hblk]
  have q3 : w1.cell? ⟨H, 3, none⟩ = some (.slice ab lb cb) := by simp [World.cell?, hblk]
  have q4 : w1.cell? ⟨H, 4, none⟩ = some (.slice ak lk ck) := by simp [World.cell?, hblk]
  clear hblk
  have hm64 : m0 ≤ 9223372036854775807 := by omega
  by_cases h0 : k0 = 0
  · rw [if_pos h0] at hR
    subst h0
    have HR := Bx.mk hR
    clear hR
    go_wp2_with fail
    refine (dappend w1 f0 _ bb HD.out HRB.out HOB.out (by omega)).mono ?_
    rw [HR.out]
    rintro e w2 ⟨rfl, X2, D2, S2⟩
    have S3 := S1.trans S2
    clear S1 S2
    go_wp2_with fail
    go_ret
    exact ⟨rfl, X2, D2, S3⟩
  · rw [if_neg h0] at hR
    have d0 : ((k0 : Int) == 0) = false := beq_eq_false_iff_ne.2 h0
    by_cases h1 : k0 = 1
    · rw [if_pos h1] at hR
      subst h1
      have HR := Bx.mk hR
      clear hR h0
      go_wp2_with fail
      refine (dsync w1 HD.out).mono ?_
      rw [HR.out]
      rintro e w2 ⟨rfl, D2, S2⟩
      have S3 := S1.trans S2
      clear S1 S2
      go_wp2_with fail
      go_ret
      exact ⟨rfl, X, D2, S3⟩
    · rw [if_neg h1] at hR
      have d1 : ((k0 : Int) == 1) = false := beq_eq_false_iff_ne.2 h1
      by_cases h2 : k0 = 2
      · rw [if_pos h2] at hR
        subst h2
        have HR := Bx.mk hR
        clear hR h0 h1
        go_wp2_with fail
        refine (dtrunc w1 f0 m0 hm64 HD.out).mono ?_
        rw [HR.out]
        rintro e w2 ⟨rfl, X2, D2, S2⟩
        have S3 := S1.trans S2
        clear S1 S2
        go_wp2_with fail
        go_ret
        exact ⟨rfl, _, D2, S3⟩
      · rw [if_neg h2] at hR
        have d2 : ((k0 : Int) == 2) = false := beq_eq_false_iff_ne.2 h2
        by_cases h3 : k0 = 3
        · rw [if_pos h3] at hR
          subst h3
          subst hR
          clear h0 h1 h2
          go_wp2_with fail
          refine (darm w1 m0 hm64 HD.out).mono ?_
          rintro e w2 ⟨rfl, D2, S2⟩
          have S3 := S1.trans S2
          clear S1 S2
          go_wp2_with fail
          go_ret
          exact ⟨rfl, X, D2, S3⟩
        · rw [if_neg h3] at hR
          have d3 : ((k0 : Int) == 3) = false := beq_eq_false_iff_ne.2 h3
          subst hR
          clear h0 h1 h2 h3
          go_wp2_with fail
          refine (dcrash w1 kk _ m0 hm64 HKP.out HD.out HRK.out HOKE.out).mono ?_
          rintro e w2 ⟨rfl, D2, S2⟩
          have S3 := S1.trans S2
          clear S1 S2
          go_wp2_with fail
          go_ret
          exact ⟨rfl, _, D2, S3⟩
set_option maxRecDepth 20000 in
set_option maxHeartbeats 2000000 in
theorem mdo_any (q : OV) (w : World) {p : Nat} {X : Nat → Prop} {D : Dk} (h : MAt w p X D) (hq : OvRd w q) (hb : Off q.bv X) (hk : Off q.kv X) :
    Calls Try.prog 30 #[.pointer (some ⟨p, 0, none⟩), .agg #[.int .i64 q.o.k, .int .i64 q.o.f, .int .i64 q.o.n, q.bv, q.kv]] w fun e w' => e = .returned (.int .i64 (D.doOp q.o).1) ∧ ∃ X', MAt w' p X' (D.doOp q.o).2 ∧ DStep X X' w w' := by
  obtain ⟨⟨k0, f0, m0, bb, kk⟩, bv, kv⟩ := q
  obtain ⟨ab, cb, eb, _, _⟩ := hq.b.opened
  obtain ⟨ak, ck, ek, _, _⟩ := hq.keep.opened
  simp only at eb ek
  obtain ⟨lb, hlb⟩ : ∃ n, bb.length = n := ⟨_, rfl⟩
  obtain ⟨lk, hlk⟩ : ∃ n, kk.length = n := ⟨_, rfl⟩
  rw [hlb] at eb
  rw [hlk] at ek
  have HLB := Bx.mk hlb
  have HLK := Bx.mk hlk
  clear hlb hlk
  subst eb ek
  simp only at hb hk ⊢
  obtain ⟨R, hR⟩ : ∃ R, D.doOp ⟨k0, f0, m0, bb, kk⟩ = R := ⟨_, rfl⟩
  rw [hR]
  unfold Dk.doOp at hR
  simp only at hR
  have BA := (Below.refl w.heap.size w).alloc (Nat.le_refl _) (opO k0 f0 m0 (.slice ab lb cb) (.slice ak lk ck))
  have hblk := World.alloc_heap_new w (opO k0 f0 m0 (.slice ab lb cb) (.slice ak lk ck))
  have h1 := h.later BA
  have hq1 := hq.below BA
  have S1 := DStep.ofBelow X BA
  have hn1 := hq.ok.n
  have hb1 := hq.ok.b
  have hkp := hq.ok.keep
  simp only at hn1 hb1 hkp
  have HRB := Bx.mk hq1.b
  have HRK := Bx.mk hq1.keep
  have HOB := Bx.mk hb
  have HOKE := Bx.mk hk
  have HKP := Bx.mk hkp
  have HD := Bx.mk h1
  clear h h1 hq hq1 hb hk BA hkp
  go_enter Try.func30, Try.ntmps30
  go_upto_region 1 with fail
  have e1 : (w.alloc (.cells #[.int .i64 k0, .int .i64 f0, .int .i64 m0, .slice ab lb cb, .slice ak lk ck] 56)) = w.alloc (opO k0 f0 m0 (.slice ab lb cb) (.slice ak lk ck)) := rfl
  rw [e1]
  clear e1
  generalize w.alloc (opO k0 f0 m0 (.slice ab lb cb) (.slice ak lk ck)) = w1 at hblk HD HRB HRK S1 ⊢
  generalize w.heap.size = H at hblk ⊢
  unfold opO at hblk
  have q0 : w1.cell? ⟨H, 0, none⟩ = some (.int .i64 k0) := by simp [World.cell?, hblk]
  have q1 : w1.cell? ⟨H, 1, none⟩ = some (.int .i64 f0) := by simp [World.cell?, hblk]
  have q2 : w1.cell? ⟨H, 2, none⟩ = some (.int .i64 m0) := by simp [World.cell?, hblk]
  have q3 : w1.cell? ⟨H, 3, none⟩ = some (.slice ab lb cb) := by simp [World.cell?, hblk]
  have q4 : w1.cell? ⟨H, 4, none⟩ = some (.slice ak lk ck) := by simp [World.cell?, hblk]
  clear hblk
  have hm64 : m0 ≤ 9223372036854775807 := by omega
  by_cases h0 : k0 = 0
  · rw [if_pos h0] at hR
    subst h0
    have HR := Bx.mk hR
    clear hR
    go_wp2_with fail
    refine (mappend_any f0 _ bb w1 HD.out HRB.out (by omega)).mono ?_
    rw [HR.out]
    rintro e w2 ⟨rfl, X2, D2, S2⟩
    have S3 := S1.trans S2
    clear S1 S2
    go_wp2_with fail
    go_ret
    exact ⟨rfl, X2, D2, S3⟩
  · rw [if_neg h0] at hR
    have d0 : ((k0 : Int) == 0) = false := beq_eq_false_iff_ne.2 h0
    by_cases h1 : k0 = 1
    · rw [if_pos h1] at hR
      subst h1
      have HR := Bx.mk hR
      clear hR h0
      go_wp2_with fail
      refine (msync_any w1 HD.out).mono ?_
      rw [HR.out]
      rintro e w2 ⟨rfl, D2, S2⟩
      have S3 := S1.trans S2
      clear S1 S2
      go_wp2_with fail
      go_ret
      exact ⟨rfl, X, D2, S3⟩
    · rw [if_neg h1] at hR
      have d1 : ((k0 : Int) == 1) = false := beq_eq_false_iff_ne.2 h1
      by_cases h2 : k0 = 2
      · rw [if_pos h2] at hR
        subst h2
        have HR := Bx.mk hR
        clear hR h0 h1
        go_wp2_with fail
        refine (mtrunc_any f0 m0 hm64 w1 HD.out).mono ?_
        rw [HR.out]
        rintro e w2 ⟨rfl, D2, S2⟩
        have S3 := S1.trans S2
        clear S1 S2
        go_wp2_with fail
        go_ret
        exact ⟨rfl, _, D2, S3⟩
      · rw [if_neg h2] at hR
        have d2 : ((k0 : Int) == 2) = false := beq_eq_false_iff_ne.2 h2
        by_cases h3 : k0 = 3
        · rw [if_pos h3] at hR
          subst h3
          subst hR
          clear h0 h1 h2
          go_wp2_with fail
          refine (marm_any m0 hm64 w1 HD.out).mono ?_
          rintro e w2 ⟨rfl, D2, S2⟩
          have S3 := S1.trans S2
          clear S1 S2
          go_wp2_with fail
          go_ret
          exact ⟨rfl, X, D2, S3⟩
        · rw [if_neg h3] at hR
          have d3 : ((k0 : Int) == 3) = false := beq_eq_false_iff_ne.2 h3
          subst hR
          clear h0 h1 h2 h3
          go_wp2_with fail
          refine (mcrash_any kk _ m0 hm64 HKP.out w1 HD.out HRK.out HOKE.out).mono ?_
          rintro e w2 ⟨rfl, X2, D2, S2⟩
          have S3 := S1.trans S2
          clear S1 S2
          go_wp2_with fail
          go_ret
          exact ⟨rfl, _, D2, S3⟩
end Go.Proofs.Ytmofakcpldbbmaa
