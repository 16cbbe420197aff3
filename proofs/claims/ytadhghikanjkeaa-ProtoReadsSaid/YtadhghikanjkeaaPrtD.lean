/- Package proto: encodeCore. -/
import Derived.Test.YtadhghikanjkeaaPrtC
namespace Go.Proofs.Ytadhghikanjkeaa
open Go.RowKit

/-- Where encodeCore stands. -/
structure ESt (w W : World) (m : Msg) (ab af : Option Addr) (cb cf : Nat) (v : Value) (bs : List UInt8) : Prop where
  blk : W.heap[w.heap.size]? = some (.cells #[.int .i64 m.k, .int .i64 m.c, .int .i64 m.v, .int .i64 m.o, .slice ab m.body.length cb, .slice af m.fnd.length cf] 33 (0, 0))
  wr : Wr W (w.heap.size + 1) v bs
  bel : Below w.heap.size w W
section
variable {w W W' : World} {m : Msg} {ab af : Option Addr} {cb cf : Nat} {v v' : Value} {bs bs' : List UInt8}
theorem ESt.c0 (h : ESt w W m ab af cb cf v bs) : W.cell? ⟨w.heap.size, 0, none⟩ = some (.int .i64 m.k) := by simp [World.cell?, h.blk]
theorem ESt.c1 (h : ESt w W m ab af cb cf v bs) : W.cell? ⟨w.heap.size, 1, none⟩ = some (.int .i64 m.c) := by simp [World.cell?, h.blk]
theorem ESt.c2 (h : ESt w W m ab af cb cf v bs) : W.cell? ⟨w.heap.size, 2, none⟩ = some (.int .i64 m.v) := by simp [World.cell?, h.blk]
theorem ESt.c3 (h : ESt w W m ab af cb cf v bs) : W.cell? ⟨w.heap.size, 3, none⟩ = some (.int .i64 m.o) := by simp [World.cell?, h.blk]
theorem ESt.c4 (h : ESt w W m ab af cb cf v bs) : W.cell? ⟨w.heap.size, 4, none⟩ = some (.slice ab m.body.length cb) := by simp [World.cell?, h.blk]
theorem ESt.c5 (h : ESt w W m ab af cb cf v bs) : W.cell? ⟨w.heap.size, 5, none⟩ = some (.slice af m.fnd.length cf) := by simp [World.cell?, h.blk]
theorem ESt.step (h : ESt w W m ab af cb cf v bs) (hW : Wr W' (w.heap.size + 1) v' bs') (S : WStep W W' (w.heap.size + 1) v v') : ESt w W' m ab af cb cf v' bs' :=
  ⟨((S.below h.wr).block _ (by omega)).trans h.blk, hW, S.bel h.wr h.bel (by omega)⟩
theorem ESt.alloc (h : ESt w W m ab af cb cf v bs) (o : Obj) : ESt w (W.alloc o) m ab af cb cf v bs :=
  ⟨(Below.heap_alloc _ _ _ (Array.getElem?_eq_some_iff.1 h.blk).1).trans h.blk, h.wr.later ((Below.refl _ _).alloc (Nat.le_refl _) o), h.bel.alloc h.bel.size o⟩
end
theorem foundW_take {l : List F3} {i : Nat} (hi : i < l.length) : foundW (l.take (i + 1)) = foundW (l.take i) ++ (zvar l[i].r ++ (zvar l[i].s ++ zvar l[i].e)) := by
  rw [List.take_succ_eq_append_getElem hi, foundW, List.flatMap_append]
  simp [foundW]
theorem foundW_len (l : List F3) : (foundW l).length ≤ l.length * 30 := by
  induction l with
  | nil => simp [foundW]
  | cons f l ih =>
    have h1 : (zvar f.r).length ≤ 10 := uvar_len _
    have h2 : (zvar f.s).length ≤ 10 := uvar_len _
    have h3 : (zvar f.e).length ≤ 10 := uvar_len _
    have e : foundW (f :: l) = (zvar f.r ++ (zvar f.s ++ zvar f.e)) ++ foundW l := rfl
    rw [e, List.length_append, List.length_append, List.length_append, List.length_cons]
    omega
theorem keepNew {wr w1 : World} {o : Obj} {b : Nat} {v v1 : Value} {bs : List UInt8} (h : WStep (wr.alloc o) w1 b v v1) (hw : Wr wr b v bs) : w1.heap[wr.heap.size]? = some o :=
  (h.block wr.heap.size (by simp) (by have := hw.1.lt; omega) (fun e => by have := (hw.2.lt _ e.symm).2; omega)).trans (World.alloc_heap_new wr _)
theorem zvar_len (n : Int) : (zvar n).length ≤ 10 := uvar_len _

set_option maxRecDepth 20000 in
set_option maxHeartbeats 2000000 in
theorem encCore_any (m : Msg) (ab af : Option Addr) (cb cf : Nat) (w : World) (hm : Cells6 w m ab af cb cf) (hv : validM m = true) :
    Calls Try.prog 34 #[msgV m ab af cb cf] w (RetMade w 5 ((coreP m).map vB)) := by
  have hf := hm.fnd
  have hv0 := hv
  simp only [validM, headM, Bool.and_eq_true, inR_iff, decide_eq_true_eq] at hv0
  obtain ⟨⟨⟨⟨⟨⟨hk, hc⟩, hv1⟩, ho⟩, hbl⟩, hfl⟩, hall⟩ := hv0
  have HK := Lib.hid hk
  have HC := Lib.hid hc
  have HV := Lib.hid hv1
  have HO := Lib.hid ho
  have HALL := Lib.hid hall
  have hcp : coreP m = zvar m.k ++ (zvar m.c ++ (zvar m.v ++ (zvar m.o ++ (rawW m.body ++ (zvar (m.fnd.length : Int) ++ foundW m.fnd))))) := rfl
  rw [hcp]
  clear hcp hk hc hv1 ho hall hv
  have l1 := zvar_len m.k
  have l2 := zvar_len m.c
  have l3 := zvar_len m.v
  have l4 := zvar_len m.o
  have l5 : (rawW m.body).length ≤ m.body.length + 10 := by have := uvar_len m.body.length; rw [rawW, List.length_append]; omega
  have l6 := zvar_len (m.fnd.length : Int)
  unfold msgV
  go_enter Try.func34, Try.ntmps34
  go_wp2_with fail
  have E0 : ESt w ((w.alloc (.cells #[.int .i64 m.k, .int .i64 m.c, .int .i64 m.v, .int .i64 m.o, .slice ab m.body.length cb, .slice af m.fnd.length cf] 33)).alloc (.cells #[.slice none 0 0] 53)) m ab af cb cf (.slice none 0 0) [] :=
    ⟨(Below.heap_alloc _ _ _ (by simp)).trans (World.alloc_heap_new w _), by have := Wr.new (w.alloc (.cells #[.int .i64 m.k, .int .i64 m.c, .int .i64 m.v, .int .i64 m.o, .slice ab m.body.length cb, .slice af m.fnd.length cf] 33)); rwa [World.size_alloc] at this, ((Below.refl _ w).alloc (Nat.le_refl _) _).alloc (by simp) _⟩
  refine (wint_any _ _ _ m.k _ E0.wr (by have := HK.out; omega) (by have := HK.out; omega) (by decide)).mono ?_
  rintro e w1 ⟨v1, rfl, W1, S1⟩
  have E1 := E0.step W1 S1
  have k1 := E1.c1
  clear E0 W1 S1
  go_wp2_with fail
  refine (wint_any _ _ _ m.c _ E1.wr (by have := HC.out; omega) (by have := HC.out; omega) (by simp only [List.length_append, List.length_nil]; omega)).mono ?_
  rintro e w2 ⟨v2, rfl, W2, S2⟩
  have E2 := E1.step W2 S2
  have k2 := E2.c2
  clear E1 W2 S2 k1
  go_wp2_with fail
  refine (wint_any _ _ _ m.v _ E2.wr (by have := HV.out; omega) (by have := HV.out; omega) (by simp only [List.length_append, List.length_nil]; omega)).mono ?_
  rintro e w3 ⟨v3, rfl, W3, S3⟩
  have E3 := E2.step W3 S3
  have k3 := E3.c3
  clear E2 W3 S3 k2
  go_wp2_with fail
  refine (wint_any _ _ _ m.o _ E3.wr (by have := HO.out; omega) (by have := HO.out; omega) (by simp only [List.length_append, List.length_nil]; omega)).mono ?_
  rintro e w4 ⟨v4, rfl, W4, S4⟩
  have E4 := E3.step W4 S4
  have k4 := E4.c4
  clear E3 W4 S4 k3
  go_wp2_with fail
  refine (wraw_any _ _ _ _ m.body _ E4.wr (hm.body.below E4.bel) (fun w' v' S => hm.body.below (S.bel E4.wr E4.bel (by omega))) (by simp only [List.length_append, List.length_nil]; omega)).mono ?_
  rintro e w5 ⟨v5, rfl, W5, S5⟩
  have E5 := E4.step W5 S5
  have k5 := E5.c5
  clear E4 W5 S5 k4
  go_wp2_with fail
  refine (wint_any _ _ _ (m.fnd.length : Int) _ E5.wr (by omega) (by omega) (by simp only [List.length_append, List.length_nil]; omega)).mono ?_
  rintro e w6 ⟨v6, rfl, W6, S6⟩
  have E6 := E5.step W6 S6
  have k6 := E6.c5
  clear E5 W6 S6 k5
  have hbase : [] ++ zvar m.k ++ zvar m.c ++ zvar m.v ++ zvar m.o ++ rawW m.body ++ zvar (m.fnd.length : Int) = zvar m.k ++ (zvar m.c ++ (zvar m.v ++ (zvar m.o ++ (rawW m.body ++ zvar (m.fnd.length : Int))))) := by simp [List.append_assoc]
  rw [hbase] at E6
  obtain ⟨base, hb⟩ : ∃ base, zvar m.k ++ (zvar m.c ++ (zvar m.v ++ (zvar m.o ++ (rawW m.body ++ zvar (m.fnd.length : Int))))) = base := ⟨_, rfl⟩
  rw [hb] at E6
  have hbl2 : base.length ≤ 70000 := by rw [← hb]; simp only [List.length_append]; omega
  have HB := Lib.hid hb
  clear hb hbase
  go_wp2_with fail
  rename World => w6
  go_loopw [28] (fun iv wr => ∃ (i : Nat) (v : Value) (bs : List UInt8), iv = .int .i64 (i : Int) ∧ i ≤ m.fnd.length ∧ Hid (bs = base ++ foundW (m.fnd.take i)) ∧ bs.length ≤ 70000 + i * 30 ∧ ESt w wr m ab af cb cf v bs) (fun iv _ => m.fnd.length - (intOf iv).toNat)
  case atStart => exact ⟨0, v6, base, by first | rfl | trivial, Nat.zero_le _, by show base = _; simp [foundW], by omega, E6⟩
  case round =>
    obtain ⟨i, v, bs, rfl, hi, HS, hsl, E⟩ := hrel
    by_cases hlt : i < m.fnd.length
    · obtain ⟨g1, g2, g3⟩ := fcells_at hlt
      have hfr := hf.below E.bel
      obtain ⟨b1, o1, rfl, c1⟩ := hfr.rd.cell g1
      obtain ⟨b2, o2, e2, c2⟩ := hfr.rd.cell g2
      cases e2
      obtain ⟨b3, o3, e3, c3⟩ := hfr.rd.cell g3
      cases e3
      have htk := foundW_take hlt
      have hok : (m.fnd[i]).ok = true := List.all_eq_true.1 HALL.out _ (List.getElem_mem hlt)
      generalize m.fnd[i] = f at *
      obtain ⟨fr, fs, fe⟩ := f
      simp only at c1 c2 c3 htk
      simp only [F3.ok, Bool.and_eq_true, inR_iff] at hok
      have HTK := Lib.hid htk
      have HOK := Lib.hid hok
      rw [← Nat.add_assoc] at c2 c3
      clear htk hok g1 g2 g3 hfr HALL
      have z1 := zvar_len fr
      have z2 := zvar_len fs
      have z3 := zvar_len fe
      go_wp2_with fail
      have F0 := E.alloc (.cells #[.int .i64 fr, .int .i64 fs, .int .i64 fe] 79)
      refine (wint_any _ _ _ fr _ F0.wr (by have := HOK.out; omega) (by have := HOK.out; omega) (by omega)).mono ?_
      rintro e x1 ⟨t1, rfl, X1, S1⟩
      have F1 := F0.step X1 S1
      have q1 := keepNew S1 E.wr
      have r1 : x1.cell? ⟨wr.heap.size, 1, none⟩ = some (.int .i64 fs) := by simp [World.cell?, q1]
      clear X1 F0 c1 c2 c3
      go_wp2_with fail
      refine (wint_any _ _ _ fs _ F1.wr (by have := HOK.out; omega) (by have := HOK.out; omega) (by simp only [List.length_append]; omega)).mono ?_
      rintro e x2 ⟨t2, rfl, X2, S2⟩
      have F2 := F1.step X2 S2
      have S12 := S1.trans S2
      have q2 := keepNew S12 E.wr
      have r2 : x2.cell? ⟨wr.heap.size, 2, none⟩ = some (.int .i64 fe) := by simp [World.cell?, q2]
      clear X2 F1 S1 S2 q1 r1
      go_wp2_with fail
      refine (wint_any _ _ _ fe _ F2.wr (by have := HOK.out; omega) (by have := HOK.out; omega) (by simp only [List.length_append]; omega)).mono ?_
      rintro e x3 ⟨t3, rfl, X3, S3⟩
      have F3 := F2.step X3 S3
      clear X3 F2 S12 S3 q2 r2
      go_wp2_with fail
      go_roundw
      case rel =>
        refine ⟨i + 1, t3, _, by go_num, by omega, Lib.hid ?_, ?_, F3⟩
        · rw [HTK.out, HS.out]; simp only [List.append_assoc]
        · simp only [List.length_append]; omega
      case measure => simp [intOf]; omega
    · obtain rfl : i = m.fnd.length := by omega
      have hS := HS.out
      rw [List.take_length] at hS
      have HS2 := Lib.hid hS
      clear hS HS
      go_wp2_with fail
      refine (wdone_any _ _ _ _ E.wr (by omega)).mono ?_
      rintro e w9 ⟨v9, rfl, M9⟩
      go_wp2_with fail
      go_ret
      refine ⟨v9, rfl, ?_, bel E.bel M9.2⟩
      have hO := own_base M9.1 E.bel.size
      rw [HS2.out, ← HB.out] at hO
      simp only [List.append_assoc] at hO ⊢
      exact hO
end Go.Proofs.Ytadhghikanjkeaa
