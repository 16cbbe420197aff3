/- The law package's examples hold. -/
import Derived.Test.YtofgcoapbocneaaRead4
namespace Go.Proofs.Ytofgcoapbocneaa
open Go.RowKit

/-- The call returns true, and nothing that lay has changed. -/
def RetT (w : World) (en : Ending) (w' : World) : Prop := en = .returned (.bool true) ∧ Below w.heap.size w w'

/-- A fresh Writer. -/
theorem Wr.new (w : World) : Wr (w.alloc (.cells #[.slice none 0 0] 26)) w.heap.size (.slice none 0 0) [] :=
  ⟨Boxed.new w _ _, World.ownsRow_nil _ _ _ _⟩
theorem WStep.bel {W w w' : World} {b : Nat} {v v' : Value} {bs : List UInt8} (h : WStep w w' b v v') (hw : Wr w b v bs) (hB : Below W.heap.size W w) (hb : W.heap.size ≤ b) : Below W.heap.size W w' :=
  hB.trans ((h.below hw).mono hb)
theorem Rst.later {w w' : World} {b : Nat} {v : Value} {bs : List UInt8} {s : RS} (h : Rst w b v bs s) (hb : Below w.heap.size w w') : Rst w' b v bs s := h.next h (.refl _ _) hb
theorem Rst.other {w w' : World} {b c : Nat} {v : Value} {bs : List UInt8} {s : RS} (h : Rst w b v bs s) (hs : BStep c w w') (hbc : b ≠ c) (hv : v.ownBlock ≠ some c) : Rst w' b v bs s := by
  cases h with
  | ok k hk h => exact .ok k hk (h.bstep hs hbc hv)
  | bad a e he h => exact .bad a e he (h.bstep hs hbc hv)
theorem BStep.bel {W w w' : World} {b : Nat} (h : BStep b w w') (hB : Below W.heap.size W w) (hb : W.heap.size ≤ b) (hlt : b < w.heap.size) : Below W.heap.size W w' := hB.trans (h.below _ hb hlt)
theorem own_lt {w : World} {base : Nat} {e : TypeId} {size : Nat} {v : Value} {n : Nat} {xs : List Value} (h : w.ownsRow base e size v n xs) (b : Nat) (hb : w.heap.size ≤ b) : v.ownBlock ≠ some b := fun e => by
  have := (h.lt _ e).2
  omega

theorem rdl1 : rdU (.ok [172, 2, 1, 2, 97, 98]) = (300, .ok [1, 2, 97, 98]) := rfl
theorem rdl2 : rdI (.ok [1, 2, 97, 98]) = (-1, .ok [2, 97, 98]) := rfl
theorem rdl3 : rdRaw (.ok [2, 97, 98]) = ([97, 98], .ok []) := rfl
theorem rdl4 : (rdI (.ok [128, 0])).2 = .error 2 := rfl
theorem wl1 : ((([] ++ uvar 300) ++ zvar (-1)) ++ rawW [97, 98]) = [172, 2, 1, 2, 97, 98] := by decide +kernel

set_option maxHeartbeats 4000000 in
theorem lives_any (w : World) : Calls Try.prog 17 #[] w (RetT w) := by
  go_enter Try.func17, Try.ntmps17
  go_wp2_with fail
  refine (wuint_any _ _ _ 300 _ (Wr.new w) (by decide) (by decide)).mono ?_
  rintro e w1 ⟨v1, rfl, W1, S1⟩
  have B1 := S1.bel (Wr.new w) ((Below.refl _ w).alloc (Nat.le_refl _) _) (Nat.le_refl _)
  go_wp2_with fail
  refine (wint_any _ _ _ (-1) _ W1 (by decide) (by decide) (by decide +kernel)).mono ?_
  rintro e w2 ⟨v2, rfl, W2, S2⟩
  have B2 := S2.bel W1 B1 (Nat.le_refl _)
  go_wp2_with fail
  refine (wtext_any _ _ _ ⟨#[97, 98]⟩ _ W2 (by decide +kernel)).mono ?_
  rintro e w3 ⟨v3, rfl, W3, S3⟩
  have B3 := S3.bel W2 B2 (Nat.le_refl _)
  rw [show (⟨#[97, 98]⟩ : ByteArray).data.toList = [97, 98] from rfl, wl1] at W3
  go_wp2_with fail
  refine (wdone_any _ _ _ _ W3 (by decide)).mono ?_
  rintro e w4 ⟨d, rfl, M4⟩
  have B4 := bel B3 M4.2
  have R4 : Rv w4 d ([172, 2, 1, 2, 97, 98] : List UInt8).length (([172, 2, 1, 2, 97, 98] : List UInt8).map vB) := by simpa using M4.rv
  have hd4 := own_lt M4.1
  clear M4 W3 W2 W1 S1 S2 S3 B3 B2 B1
  go_wp2_with fail
  refine (read_any d [172, 2, 1, 2, 97, 98] _ R4 (by decide)).mono ?_
  rintro e w5 ⟨br, vr, rfl, hbr, hvr, T5, B5⟩
  have B5' := bel B4 B5
  have R5 := R4.below B5
  have hdr := hd4 br hbr
  have hlr := T5.lt
  go_wp2_with fail
  refine (read_any _ [128, 0] _ (Rv.lit w5 [.int .u8 128, .int .u8 0] 5 2 (by unfold maxLen; omega)) (by decide)).mono ?_
  rintro e w6 ⟨bb, vb, rfl, hbb, hvb, T6, B6⟩
  have B6' := belA B5' B6
  have R6 := (R5.below ((Below.refl _ _).alloc (Nat.le_refl _) _)).below B6
  have T5' := (T5.later ((Below.refl _ _).alloc (Nat.le_refl _) _)).later B6
  simp only [World.size_alloc] at hbb hvb
  have hdb := hd4 bb (by have := B5.size; omega)
  have hne : br ≠ bb := by omega
  have hvbr : vb.ownBlock ≠ some br := fun e => by have := (hvb _ e).1; omega
  have hl6 := T5'.lt
  have hl6' := T6.lt
  have hwb : w.heap.size ≤ br := by have := B4.size; omega
  have hwb' : w.heap.size ≤ bb := by have := B5'.size; omega
  clear T5 R5 R4 B5 B6 B5' B4
  go_wp2_with fail
  refine (ruint_any _ _ _ _ _ T5').mono ?_
  rintro e w7 ⟨rfl, T7, S7⟩
  rw [rdl1] at T7 ⊢
  have B7 := S7.bel B6' hwb hl6
  have hl7 := T7.lt
  go_wp2_with fail
  refine (rint_any _ _ _ _ _ T7).mono ?_
  rintro e w8 ⟨rfl, T8, S8⟩
  rw [rdl2] at T8 ⊢
  have B8 := S8.bel B7 hwb hl7
  have hl8 := T8.lt
  go_wp2_with fail
  refine (rtext_any _ _ _ _ _ T8 (by decide)).mono ?_
  rintro e w9 ⟨rfl, T9, S9⟩
  rw [rdl3] at T9 ⊢
  have B9 := S9.bel B8 hwb hl8
  have S69 := (S7.trans S8).trans S9
  have T9b := T6.other S69 hne.symm hvbr
  have R9 := R6.bstep S69 hdr
  have hl9 := T9b.lt
  clear T8 T7 T6 T5' S7 S8 S9 S69
  go_wp2_with fail
  refine (rint_any _ _ _ _ _ T9b).mono ?_
  rintro e w10 ⟨rfl, T10, S10⟩
  rw [rdl4] at T10
  have B10 := S10.bel B9 hwb' hl9
  have R10 := R9.bstep S10 hdb
  have T10r := T9.other S10 hne (fun e => by have := (hvr _ e).2; omega)
  clear R9 R6 T9
  go_wp2_with fail
  have TL := Rv.lit w10 (([172, 2, 1, 2, 97, 98] : List UInt8).map vB) 5 6 (by unfold maxLen; omega)
  refine (sameBytes_refl d _ [172, 2, 1, 2, 97, 98] _ (R10.below ((Below.refl _ _).alloc (Nat.le_refl _) _)) TL).mono ?_
  rintro e w11 ⟨rfl, nq, h11⟩
  have B11 : Below w.heap.size w w11 := by rw [h11]; exact belD (B10.alloc B10.size _) nq
  have T11 : Rst w11 bb vb [128, 0] (.error 2) := T10.later (by rw [h11]; exact belD ((Below.refl _ w10).alloc (Nat.le_refl _) _) nq)
  have T11r : Rst w11 br vr [172, 2, 1, 2, 97, 98] (.ok []) := T10r.later (by rw [h11]; exact belD ((Below.refl _ w10).alloc (Nat.le_refl _) _) nq)
  clear h11
  go_wp2_with fail
  refine (rend_any _ _ _ _ _ T11r).mono ?_
  rintro e w12 ⟨rfl, nq2, h12⟩
  have B12 : Below w.heap.size w w12 := by rw [h12]; exact belD B11 nq2
  have T12 : Rst w12 bb vb [128, 0] (.error 2) := T11.later (by rw [h12]; exact belD (Below.refl _ _) nq2)
  clear h12
  rw [show rdEnd (.ok []) = 0 from rfl]
  go_wp2_with fail
  refine (rend_any _ _ _ _ _ T12).mono ?_
  rintro e w13 ⟨rfl, nq3, h13⟩
  have B13 : Below w.heap.size w w13 := by rw [h13]; exact belD B12 nq3
  clear h13
  rw [show rdEnd (.error 2) = 2 from rfl]
  go_wp2_with fail
  go_ret
  exact ⟨rfl, B13⟩
end Go.Proofs.Ytofgcoapbocneaa
