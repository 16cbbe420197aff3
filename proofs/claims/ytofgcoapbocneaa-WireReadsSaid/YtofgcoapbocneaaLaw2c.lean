/- law02: WireOwn. -/
import Derived.Test.YtofgcoapbocneaaLaw2
import Derived.Test.YtofgcoapbocneaaReadR
namespace Go.Proofs.Ytofgcoapbocneaa
open Go.RowKit

/-- The value lies below block b. -/
def Low (b : Nat) (v : Value) : Prop := ∀ g, v.ownBlock = some g → g < b
theorem Made.low {w w' : World} {e : TypeId} {v : Value} {us : List Value} (h : Made w w' e v us) : Low w'.heap.size v := fun g hg => (h.1.lt g hg).2
theorem Low.mono {b c : Nat} {v : Value} (h : Low b v) (hbc : b ≤ c) : Low c v := fun g hg => Nat.lt_of_lt_of_le (h g hg) hbc

theorem Rst.far {w w' : World} {b : Nat} {v : Value} {bs : List UInt8} {s : RS} {row : Option Nat} (h : Rst w b v bs s) (hg : w.grownBy w' row) (h1 : row ≠ some b) (h2 : row = none ∨ row ≠ v.ownBlock) : Rst w' b v bs s := by
  rcases row with _ | g
  · exact h.later ⟨hg.os, hg.tape, hg.output, hg.size, fun k hk => hg.block k hk (by simp)⟩
  · refine h.other (c := g) ⟨hg.os, hg.tape, hg.output, hg.size, fun k hk hne => hg.block k hk (by simpa using hne)⟩ (fun e => h1 (by rw [e])) (fun e => ?_)
    rcases h2 with h2 | h2
    · cases h2
    · exact h2 e.symm

set_option maxHeartbeats 4000000 in
set_option maxRecDepth 20000 in
theorem law_WireOwn (u : Value) (bs : List UInt8) (l : Value) (us : List Int) (w : World) (hu : Rv w u bs.length (bs.map vB)) (hl : Rv w l us.length (us.map (Value.int .i64)))
    (hr : ∀ x ∈ us, -9223372036854775808 ≤ x ∧ x ≤ 9223372036854775807) :
    Calls Try.prog 5 #[u, l] w (RetT w) := by
  go_enter Try.func5, Try.ntmps5
  go_wp2_with fail
  refine (few_some u bs 30 (by omega) _ hu).mono ?_
  rintro e w1 ⟨v1, xs, _, hx, rfl, M1, R1⟩
  have B1 := M1.2
  have L1 := M1.low
  have O1 := M1.1
  obtain ⟨k1, a1, c1, rfl⟩ := own_shape O1
  obtain rfl : k1 = xs.length := by obtain ⟨_, _, e, _⟩ := R1; cases e; rfl
  rw [List.length_map] at O1
  go_wp2_with fail
  refine (ints_some l us 10 (by omega) _ (hl.below B1)).mono ?_
  rintro e w2 ⟨v2, ys, HY, hy, rfl, M2, R2⟩
  have B2 := bel B1 M2.2
  have L2 := M2.low
  have O2 := M2.1
  have O1b := own_below O1 M2.2
  have hs2 := M2.2.size
  obtain ⟨k2, a2, c2, rfl⟩ := own_shape O2
  obtain rfl : k2 = ys.length := by obtain ⟨_, _, e, _⟩ := R2; cases e; rfl
  rw [List.length_map] at O2
  have hyr : ∀ x ∈ ys, -9223372036854775808 ≤ x ∧ x ≤ 9223372036854775807 := fun x hx => hr x (by rw [HY.out] at hx; exact List.mem_of_mem_take hx)
  have HR := Lib.hid hyr
  clear hyr hr M1 M2 R1 R2 O1
  go_wp2_with fail
  have W0 := Wr.new w2
  refine (wraw_any _ _ _ _ xs _ W0 (Rv.of_own (O1b.alloc _)) (fun w' v' S => Rv.of_own (own_belowb (O1b.alloc _) (S.below W0) (L1.mono hs2))) (by simp; omega)).mono ?_
  rintro e w3 ⟨v3, rfl, W3, S3⟩
  have b3 := S3.below W0
  have O1c := own_belowb (O1b.alloc _) b3 (L1.mono hs2)
  have O2c := own_belowb (O2.alloc _) b3 L2
  have B3 := (B2.alloc B2.size (.cells #[.slice none 0 0] 26)).trans (b3.mono B2.size)
  go_wp2_with fail
  refine (wints_any _ _ _ _ ys _ W3 (Rv.of_own O2c) (fun w' v' S => Rv.of_own (own_belowb O2c (S.below W3) L2)) HR.out (by have := uvar_len xs.length; simp [rawW]; omega)).mono ?_
  rintro e w4 ⟨v4, rfl, W4, S4⟩
  have b4 := S4.below W3
  have O1d := own_belowb O1c b4 (L1.mono hs2)
  have O2d := own_belowb O2c b4 L2
  have B4 := B3.trans (b4.mono B2.size)
  have hbl : (([] ++ rawW xs) ++ intsW ys).length ≤ 1000 := by
    have := uvar_len xs.length
    have := uvar_len ys.length
    have := zvars_len ys
    simp only [rawW, intsW, List.nil_append, List.length_append]
    omega
  have hrd : rdRaw (.ok (([] ++ rawW xs) ++ intsW ys)) = (xs, .ok (intsW ys)) := by rw [List.nil_append, rdRaw_rawW _ _ (by omega)]
  have hrd2 : rdInts (.ok (intsW ys)) = (ys, .ok []) := by have := rdInts_intsW ys [] (by omega) HR.out; rwa [List.append_nil] at this
  have HD1 := Lib.hid hrd
  have HD2 := Lib.hid hrd2
  generalize ([] ++ rawW xs) ++ intsW ys = zs at *
  clear hrd hrd2 b3 b4 S3 S4 W3 O1b O1c O2 O2c B3 W0
  have hsz4 := W4.1.lt
  go_wp2_with fail
  refine (wdone_any _ _ _ _ W4 (by omega)).mono ?_
  rintro e w5 ⟨v5, rfl, M5⟩
  have B5 := bel B4 M5.2
  have W5 := W4.later M5.2
  have O1e := own_below O1d M5.2
  have O2e := own_below O2d M5.2
  have O5 := M5.1
  have R5 := M5.rv
  have hs5 := M5.2.size
  obtain ⟨k5, a5, c5, rfl⟩ := own_shape O5
  obtain rfl : k5 = zs.length := by obtain ⟨_, _, e, _⟩ := R5; cases e; simp
  rw [List.length_map] at O5 R5
  have P4 : Span w2.heap.size w4.heap.size v4 := own_span W4.2
  clear O1d O2d M5 W4
  go_wp2_with (at_builtin; refine wpList_app _ rfl _ _ rfl Try.elB w5.heap.size _ 0 _ rfl (own_empty w5 _) _ zs.length _ rfl (R5.below ((Below.refl _ _).alloc (Nat.le_refl _) _)) (by simp) (ones_B _) (by omega) (by simp) ?_; intro v6 w6 O6 hg6 _; obtain ⟨k6, a6, c6, rfl⟩ := own_shape O6; have HO6 := Lib.hid O6; clear O6)
  have b6 : Below w5.heap.size w5 w6 := ((Below.refl _ w5).alloc (Nat.le_refl _) _).grown hg6 (by simp) (fun g hg => by cases hg; exact Nat.le_refl _)
  have B6 := bel B5 b6
  have W6 := W5.later b6
  have O1 := own_below O1e b6
  have O2 := own_below O2e b6
  have O5' := own_below O5 b6
  have O6 : w6.ownsRow w5.heap.size 5 1 (.slice a6 k6 c6) zs.length (zs.map vB) := by simpa using HO6.out
  obtain rfl := own_k O6
  have hs6 := b6.size
  have P1 : Span w.heap.size w1.heap.size (.slice a1 xs.length c1) := fun g hg => ⟨(O1.lt g hg).1, L1 g hg⟩
  have P2 : Span w1.heap.size w2.heap.size (.slice a2 ys.length c2) := fun g hg => ⟨(O2.lt g hg).1, L2 g hg⟩
  have P5 : Span w4.heap.size w5.heap.size (.slice a5 zs.length c5) := own_span O5
  have P6 : Span w5.heap.size w6.heap.size (.slice a6 zs.length c6) := own_span O6
  clear HO6 hg6 b6 W5 O1e O2e O5 R5 B4 B5
  go_loopw [10] (fun nv wr => ∃ i : Nat, nv = .int .i64 (i : Int) ∧ i ≤ xs.length ∧ Over w6 wr w.heap.size 5 (.slice a1 xs.length c1) xs.length) (fun nv _ => xs.length - (intOf nv).toNat)
  case atStart => exact ⟨0, rfl, Nat.zero_le _, .start O1⟩
  case round =>
    obtain ⟨i, rfl, hi, HOv⟩ := hrel
    by_cases hlt : i < xs.length
    · obtain ⟨g, cap, hv, hcap, ⟨x, hcx⟩, hfx, hst⟩ := HOv.step i hlt
      cases hv
      have HST := hst (.int .u8 7)
      clear hst
      go_wp2_with fail
      go_roundw
      case rel => exact ⟨i + 1, by go_num, by omega, HST⟩
      case measure => simp [intOf]; omega
    · obtain rfl : i = xs.length := by omega
      obtain ⟨⟨_, _⟩, G7⟩ := HOv
      have B7 := B6.grown G7 B6.size (fun g hg => (P1 g hg).1)
      have hs7 := G7.size
      have W7 := W6.far G7 (P1.nb _ (.inl hs2)) (P1.ne P4 (.inl hs2))
      have O2' := own_far O2 G7 (P1.ne P2 (.inl (Nat.le_refl _)))
      have O5'' := own_far O5' G7 (P1.ne P5 (.inl (by omega)))
      have O6' := own_far O6 G7 (P1.ne P6 (.inl (by omega)))
      clear G7 B6 W6 O1 O2 O5' O6
      go_wp2_with fail
      go_loopw [11] (fun nv wx => ∃ i : Nat, nv = .int .i64 (i : Int) ∧ i ≤ ys.length ∧ Over wr wx w1.heap.size 3 (.slice a2 ys.length c2) ys.length) (fun nv _ => ys.length - (intOf nv).toNat)
      case atStart => exact ⟨0, rfl, Nat.zero_le _, .start O2'⟩
      case round =>
        obtain ⟨i, rfl, hi, HOv⟩ := hrel
        by_cases hlt : i < ys.length
        · obtain ⟨g, cap, hv, hcap, ⟨x, hcx⟩, hfx, hst⟩ := HOv.step i hlt
          cases hv
          have HST := hst (.int .i64 7)
          clear hst
          go_wp2_with fail
          go_roundw
          case rel => exact ⟨i + 1, by go_num, by omega, HST⟩
          case measure => simp [intOf]; omega
        · obtain rfl : i = ys.length := by omega
          obtain ⟨⟨_, _⟩, G8⟩ := HOv
          have B8 := B7.grown G8 B7.size (fun g hg => by have := (P2 g hg).1; have := B1.size; omega)
          have hs8 := G8.size
          have W8 := W7.far G8 (P2.nb _ (.inl (Nat.le_refl _))) (P2.ne P4 (.inl (Nat.le_refl _)))
          have O5a := own_far O5'' G8 (P2.ne P5 (.inl (by omega)))
          have O6a := own_far O6' G8 (P2.ne P6 (.inl (by omega)))
          clear G8 B7 W7 O2' O5'' O6'
          go_wp2_with fail
          go_loopw [12] (fun nv wy => ∃ i : Nat, nv = .int .i64 (i : Int) ∧ i ≤ zs.length ∧ Over wr wy w4.heap.size 5 (.slice a5 zs.length c5) zs.length) (fun nv _ => zs.length - (intOf nv).toNat)
          case atStart => exact ⟨0, rfl, Nat.zero_le _, .start O5a⟩
          case round =>
            obtain ⟨i, rfl, hi, HOv⟩ := hrel
            by_cases hlt : i < zs.length
            · obtain ⟨g, cap, hv, hcap, ⟨x, hcx⟩, hfx, hst⟩ := HOv.step i hlt
              cases hv
              have HST := hst (.int .u8 9)
              clear hst
              go_wp2_with fail
              go_roundw
              case rel => exact ⟨i + 1, by go_num, by omega, HST⟩
              case measure => simp [intOf]; omega
            · obtain rfl : i = zs.length := by omega
              obtain ⟨⟨_, _⟩, G9⟩ := HOv
              have B9 := B8.grown G9 B8.size (fun g hg => by have := (P5 g hg).1; have := B2.size; omega)
              have hs9 := G9.size
              have W9 := W8.far G9 (P5.nb _ (.inr (by omega))) (P5.ne P4 (.inr (Nat.le_refl _)))
              have O6b := own_far O6a G9 (P5.ne P6 (.inl (Nat.le_refl _)))
              clear G9 B8 W8 O5a O6a
              clear P1 P2 P5 P4 L1 L2 hs7 hs8
              rename World => w9
              go_wp2_with fail
              refine (wdone_any _ _ _ _ W9 (by omega)).mono ?_
              rintro e w10 ⟨v10, rfl, M10⟩
              have B10 := bel B9 M10.2
              have O6c := own_below O6b M10.2
              have R10 := M10.rv
              rw [List.length_map] at R10
              clear M10 W9 O6b
              go_wp2_with fail
              refine (sameBytes_refl v10 _ zs _ R10 (Rv.of_own O6c)).mono ?_
              rintro e w11 ⟨rfl, nq, h11⟩
              have B11 : Below w.heap.size w w11 := by rw [h11]; exact belD B10 nq
              have O6d : w11.ownsRow w5.heap.size 5 1 (.slice a6 zs.length c6) zs.length (zs.map vB) := own_below O6c (by rw [h11]; exact belD (Below.refl _ _) nq)
              have R6 := Rv.of_own O6d
              clear h11 R10 O6c B10
              go_wp2_with (at_builtin; refine wpList_app _ rfl _ _ rfl Try.elB w11.heap.size _ 0 _ rfl (own_empty w11 _) _ zs.length _ rfl (R6.below ((Below.refl _ _).alloc (Nat.le_refl _) _)) (by simp) (ones_B _) (by omega) (by simp) ?_; intro v12 w12 O12 hg12 _; obtain ⟨k12, a12, c12, rfl⟩ := own_shape O12; have HO12 := Lib.hid O12; clear O12)
              have b12 : Below w11.heap.size w11 w12 := ((Below.refl _ w11).alloc (Nat.le_refl _) _).grown hg12 (by simp) (fun g hg => by cases hg; exact Nat.le_refl _)
              have B12 := bel B11 b12
              have O12 : w12.ownsRow w11.heap.size 5 1 (.slice a12 k12 c12) zs.length (zs.map vB) := by simpa using HO12.out
              obtain rfl := own_k O12
              clear HO12 hg12 R6 O6d
              refine (read_any _ zs _ (Rv.of_own O12) (by omega)).mono ?_
              rintro e w13 ⟨br, vr, rfl, hbr, hvr, T13, B13⟩
              have O13 := own_below O12 B13
              have B13' := bel B12 B13
              have P12 : Span w11.heap.size w12.heap.size (.slice a12 zs.length c12) := own_span O12
              have B12s := B11.size
              have hs12 := b12.size
              clear b12 B12 B11 O12
              have hs13 := B13.size
              have Pv : Span w12.heap.size br vr := hvr
              clear hvr P6
              go_wp2_with fail
              go_loopw [15] (fun nv wy => ∃ i : Nat, nv = .int .i64 (i : Int) ∧ i ≤ zs.length ∧ Over w13 wy w11.heap.size 5 (.slice a12 zs.length c12) zs.length) (fun nv _ => zs.length - (intOf nv).toNat)
              case atStart => exact ⟨0, rfl, Nat.zero_le _, .start O13⟩
              case round =>
                obtain ⟨i, rfl, hi, HOv⟩ := hrel
                by_cases hlt : i < zs.length
                · obtain ⟨g, cap, hv, hcap, ⟨x, hcx⟩, hfx, hst⟩ := HOv.step i hlt
                  cases hv
                  have HST := hst (.int .u8 255)
                  clear hst
                  go_wp2_with fail
                  go_roundw
                  case rel => exact ⟨i + 1, by go_num, by omega, HST⟩
                  case measure => simp [intOf]; omega
                · obtain rfl : i = zs.length := by omega
                  obtain ⟨⟨_, _⟩, G14⟩ := HOv
                  have B14 := B13'.grown G14 B13'.size (fun g hg => by have := (P12 g hg).1; have := B9.size; have := B12s; omega)
                  have hs14 := G14.size
                  have T14 := T13.far G14 (P12.nb _ (.inl hbr)) (P12.ne Pv (.inl (Nat.le_refl _)))
                  have Pv2 := Pv
                  clear G14 T13 O13 P12 Pv
                  rename World => w14
                  go_wp2_with fail
                  refine (rraw_any _ _ _ _ _ T14 (by omega)).mono ?_
                  rw [HD1.out]
                  rintro e w15 ⟨v15, rfl, O15, T15, S15⟩
                  have hbr14 := T14.lt
                  have hwbr : w.heap.size ≤ br := by have := B9.size; omega
                  have B15 := S15.bel B14 hwbr hbr14
                  have hbr15 := T15.lt
                  have Pvr := T15.rv.2
                  have hvr15 : Span 0 br vr := fun g hg => ⟨Nat.zero_le _, (Pv2 g hg).2⟩
                  obtain ⟨k15, a15, c15, rfl⟩ := own_shape O15
                  obtain rfl := own_k O15
                  rw [List.length_map] at O15 ⊢
                  clear S15 B14 Pvr
                  go_wp2_with fail
                  go_loopw [17] (fun nv wy => ∃ i : Nat, nv = .int .i64 (i : Int) ∧ i ≤ xs.length ∧ Over w15 wy w14.heap.size 5 (.slice a15 xs.length c15) xs.length) (fun nv _ => xs.length - (intOf nv).toNat)
                  case atStart => exact ⟨0, rfl, Nat.zero_le _, .start O15⟩
                  case round =>
                    obtain ⟨i, rfl, hi, HOv⟩ := hrel
                    by_cases hlt : i < xs.length
                    · obtain ⟨g, cap, hv, hcap, ⟨x, hcx⟩, hfx, hst⟩ := HOv.step i hlt
                      cases hv
                      have HST := hst (.int .u8 1)
                      clear hst
                      go_wp2_with fail
                      go_roundw
                      case rel => exact ⟨i + 1, by go_num, by omega, HST⟩
                      case measure => simp [intOf]; omega
                    · obtain rfl : i = xs.length := by omega
                      obtain ⟨⟨_, _⟩, G16⟩ := HOv
                      have P15 : Span w14.heap.size w15.heap.size (.slice a15 xs.length c15) := own_span O15
                      have B16 := B15.grown G16 B15.size (fun g hg => by have := (P15 g hg).1; omega)
                      have T16 := T15.far G16 (P15.nb _ (.inr hbr14)) (P15.ne hvr15 (.inr (by omega)))
                      clear G16 T15 O15 P15 hvr15
                      rename World => w16
                      have hbr16 := T16.lt
                      go_wp2_with fail
                      refine (rints_any _ _ _ _ _ T16 (by omega)).mono ?_
                      rw [HD2.out]
                      rintro e w17 ⟨v17, rfl, O17, T17, S17⟩
                      have B17 := S17.bel B16 hwbr hbr16
                      have R17 := Rv.of_own O17
                      rw [List.length_map] at R17
                      go_wp2_with fail
                      refine (ints_any l us 10 (by omega) _ (hl.below B17)).mono ?_
                      rw [← HY.out]
                      rintro e w18 ⟨v18, rfl, M18⟩
                      have B18 := bel B17 M18.2
                      have R18 := M18.rv
                      rw [List.length_map] at R18
                      have T18 := T17.later M18.2
                      have R17' := R17.below M18.2
                      go_wp2_with fail
                      refine (sameInts_refl _ _ ys _ R17' R18).mono ?_
                      rintro e w19 ⟨rfl, nq2, h19⟩
                      have B19 : Below w.heap.size w w19 := by rw [h19]; exact belD B18 nq2
                      have T19 : Rst w19 br vr zs (.ok []) := T18.later (by rw [h19]; exact belD (Below.refl _ _) nq2)
                      clear h19
                      go_wp2_with fail
                      refine (rend_any _ _ _ _ _ T19).mono ?_
                      rintro e w20 ⟨rfl, nq3, h20⟩
                      have B20 : Below w.heap.size w w20 := by rw [h20]; exact belD B19 nq3
                      clear h20
                      rw [show rdEnd (.ok []) = 0 from rfl]
                      go_wp2_with fail
                      refine (lives_any _).mono ?_
                      rintro e w21 ⟨rfl, B21⟩
                      go_wp2_with fail
                      go_ret
                      exact ⟨rfl, bel B20 B21⟩
end Go.Proofs.Ytofgcoapbocneaa
