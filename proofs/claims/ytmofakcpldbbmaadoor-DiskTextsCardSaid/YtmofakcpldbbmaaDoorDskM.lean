/- Package disk: lives. -/
import Derived.Test.YtmofakcpldbbmaaDoorDskL
namespace Go.Proofs.YtmofakcpldbbmaaDoor
open Go.RowKit

theorem off_new {w : World} {X : Nat → Prop} (hX : ∀ b, X b → b < w.heap.size) (n c : Nat) : Off (.slice (some ⟨w.heap.size, 0, none⟩) n c) X := fun b hb hx => by
  have e : w.heap.size = b := Option.some.inj hb
  have := hX b hx
  omega
set_option maxRecDepth 20000 in
set_option maxHeartbeats 2000000 in
theorem lives30_any (w : World) : Calls Tryd.prog 15 #[] w fun e w' => e = .returned (.bool true) ∧ Below w.heap.size w w' := by
  go_enter Tryd.func15, Tryd.ntmps15
  go_wp2_with fail
  refine (dnew w 100 (by decide) (by decide)).mono ?_
  rintro e w1 ⟨p, X, rfl, D1, hX, B1⟩
  go_wp2_with fail
  have BA := (Below.refl w1.heap.size w1).alloc (Nat.le_refl _) (.cells #[.int .u8 1, .int .u8 2] 5)
  refine (dappend _ 3 _ [1, 2] (D1.later BA) (Rv.lit w1 [vB 1, vB 2] 5 2 (by decide)) (off_new D1.xl 2 2) (by decide)).mono ?_
  rintro e w2 ⟨rfl, X2, D2, S2⟩
  replace D2 : DAt w2 p X2 lv1 := D2
  have B2 := B1.trans ((BA.mono B1.size).trans (S2.toBelow (by rw [World.size_alloc]; have := B1.size; omega) hX))
  have hX2 := S2.ge (by rw [World.size_alloc]; have := B1.size; omega) hX
  generalize ((newD 100).append 3 [1, 2]).1 = r2
  clear D1 S2 BA hX B1
  go_wp2_with fail
  refine (dsync w2 D2).mono ?_
  rintro e w3 ⟨rfl, D3, S3⟩
  replace D3 : DAt w3 p X2 lv2 := D3
  have B3 := B2.trans (S3.toBelow B2.size hX2)
  generalize lv1.sync.1 = r3
  clear D2 S3 B2
  go_wp2_with fail
  have BA := (Below.refl w3.heap.size w3).alloc (Nat.le_refl _) (.cells #[.int .u8 255] 5)
  refine (dappend _ 3 _ [255] (D3.later BA) (Rv.lit w3 [vB 255] 5 1 (by decide)) (off_new D3.xl 1 1) (by decide)).mono ?_
  rintro e w4 ⟨rfl, X4, D4, S4⟩
  replace D4 : DAt w4 p X4 lv3 := D4
  have B4 := B3.trans ((BA.mono B3.size).trans (S4.toBelow (by rw [World.size_alloc]; have := B3.size; omega) hX2))
  have hX4 := S4.ge (by rw [World.size_alloc]; have := B3.size; omega) hX2
  generalize (lv2.append 3 [255]).1 = r4
  clear D3 S4 BA hX2 B3
  go_wp2_with fail
  refine (dcopy w4 D4).mono ?_
  rintro e w5 ⟨q, Y, rfl, E5, hY, B5⟩
  have D5 := D4.later B5
  have hXY : Sep X4 Y := fun b hb hy => by have := D4.xl b hb; have := hY b hy; omega
  have B5' := bel B4 B5
  have hY5 : ∀ b, Y b → w.heap.size ≤ b := fun b hb => by have := hY b hb; have := B4.size; omega
  clear D4 hY B5 B4
  go_wp2_with fail
  have BA := (Below.refl w5.heap.size w5).alloc (Nat.le_refl _) (.cells #[.int .i64 1] 3)
  refine (dcrash _ [1] _ 7 (by decide) (by decide) (D5.later BA) (Rv.lit w5 [.int .i64 1] 3 1 (by decide)) (off_new D5.xl 1 1)).mono ?_
  rintro e w6 ⟨rfl, D6, S6⟩
  replace D6 : DAt w6 p X4 lv4 := D6
  have E6 := (E5.later BA).other S6 hXY
  have B6 := B5'.trans ((BA.mono B5'.size).trans (S6.toBelow (by rw [World.size_alloc]; have := B5'.size; omega) hX4))
  clear D5 E5 S6 BA B5'
  go_wp2_with fail
  refine (dcrash w6 [] _ 7 (by decide) (fun x hx => by cases hx) E6 (Rv.nil _) (fun b hb => by cases hb)).mono ?_
  rintro e w7 ⟨rfl, E7, S7⟩
  replace E7 : DAt w7 q Y lv5 := E7
  have D7 := D6.other S7 hXY.symm
  have B7 := B6.trans (S7.toBelow B6.size hY5)
  clear D6 E6 S7 B6
  go_wp2_with fail
  refine (dread w7 3 D7).mono ?_
  rw [lv4_read]
  rintro e w8 ⟨v8, rfl, O8, B8⟩
  have E8 := E7.later B8
  have B8' := bel B7 B8
  have hOff8 : Off v8 Y := Off.ge O8 E7.xl
  clear E7 D7 B8 B7
  go_wp2_with fail
  refine (dread w8 3 E8).mono ?_
  rw [lv5_read]
  rintro e w9 ⟨v9, rfl, O9, B9⟩
  have E9 := E8.later B9
  have O8' := own_below O8 B9
  have B9' := bel B8' B9
  have hOff9 : Off v9 Y := Off.ge O9 E8.xl
  clear E8 B9 B8' O8
  go_wp2_with fail
  refine (darm w9 0 (by decide) E9).mono ?_
  rintro e w10 ⟨rfl, E10, S10⟩
  replace E10 : DAt w10 q Y lv6 := E10
  have O8 := own_step O8' S10 hOff8
  have O9' := own_step O9 S10 hOff9
  have B10 := B9'.trans (S10.toBelow B9'.size hY5)
  clear E9 S10 B9' O9 O8'
  go_wp2_with fail
  refine (dappend w10 1 _ [] E10 (Rv.nil _) (fun b hb => by cases hb) (by decide)).mono ?_
  rw [lv6_append]
  rintro e w11 ⟨rfl, Y2, E11, S11⟩
  replace E11 : DAt w11 q Y2 lv7 := E11
  have O8' := own_step O8 S11 hOff8
  have O9 := own_step O9' S11 hOff9
  have B11 := B10.trans (S11.toBelow B10.size hY5)
  clear E10 S11 B10 O9' O8
  go_wp2_with fail
  refine (dread w11 3 E11).mono ?_
  rw [lv7_read]
  rintro e w12 ⟨v12, rfl, O12, B12⟩
  have O8 := own_below O8' B12
  have O9' := own_below O9 B12
  have B12' := bel B11 B12
  clear E11 B11 B12 O8' O9 O12
  go_wp2_with fail
  have BA := (Below.refl w12.heap.size w12).alloc (Nat.le_refl _) (.cells #[.int .u8 1, .int .u8 2, .int .u8 254] 5)
  refine (sameBytes_refl _ _ [1, 2, 254] _ (Rv.of_own (own_below O8 BA)) (Rv.lit w12 [vB 1, vB 2, vB 254] 5 3 (by decide))).mono ?_
  rintro e w13 ⟨rfl, n13, rfl⟩
  have O9 := own_below (own_below O9' BA) (belD (Below.refl _ _) n13)
  have B13 := bel B12' (belD BA n13)
  generalize (w12.alloc (.cells #[.int .u8 1, .int .u8 2, .int .u8 254] 5)).drewN n13 = w13 at O9 B13 ⊢
  clear O9' BA B12' O8
  go_wp2_with fail
  have BA := (Below.refl w13.heap.size w13).alloc (Nat.le_refl _) (.cells #[.int .u8 1, .int .u8 2] 5)
  refine (sameBytes_refl _ _ [1, 2] _ (Rv.of_own (own_below O9 BA)) (Rv.lit w13 [vB 1, vB 2] 5 2 (by decide))).mono ?_
  rintro e w14 ⟨rfl, n14, rfl⟩
  have B14 := bel B13 (belD BA n14)
  generalize (w13.alloc (.cells #[.int .u8 1, .int .u8 2] 5)).drewN n14 = w14 at B14 ⊢
  go_wp2_with fail
  go_ret
  exact ⟨rfl, B14⟩
end Go.Proofs.YtmofakcpldbbmaaDoor
