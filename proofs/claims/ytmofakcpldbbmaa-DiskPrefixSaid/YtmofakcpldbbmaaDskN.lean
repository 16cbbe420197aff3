/- Law DiskArguments. -/
import Derived.Test.YtmofakcpldbbmaaDskM
namespace Go.Proofs.Ytmofakcpldbbmaa
open Go.RowKit

theorem newD_used (r : Int) : (newD r).used = 0 := by
  show sumL (fun _ => 0) 64 = 0
  decide
theorem newD_bad (r k : Int) (b : List UInt8) (hk : ¬ (0 ≤ k ∧ k < 64)) : (newD r).append k b = (1, newD r) := by unfold Dk.append; rw [if_pos hk]
theorem newD_full (r k : Int) (b : List UInt8) (hk : 0 ≤ k ∧ k < 64) (hb : r < b.length) : (newD r).append k b = (18, newD r) := by
  unfold Dk.append
  rw [if_neg (fun h => h hk), if_neg (show ¬ (newD r).off = true from fun h => by cases h), if_pos (by rw [newD_used]; show r - ((0 : Nat) : Int) < _; omega)]
theorem newD_ok (r k : Int) (b : List UInt8) (hk : 0 ≤ k ∧ k < 64) (hb : ¬ r < b.length) : (newD r).append k b = (0, (newD r).put k b 0) := by
  unfold Dk.append
  rw [if_neg (fun h => h hk), if_neg (show ¬ (newD r).off = true from fun h => by cases h), if_neg (by rw [newD_used]; show ¬ r - ((0 : Nat) : Int) < _; omega)]
  rfl
theorem put_fs (D : Dk) (k : Int) (b : List UInt8) (d : Nat) : (D.put k b d).fs k = (b, if b = [] then 0 else d) := by simp [Dk.put]
theorem read_bad (D : Dk) (k : Int) (hk : ¬ (0 ≤ k ∧ k < 64)) : D.read k = ([], 1) := by unfold Dk.read; rw [if_pos hk]
theorem read_on (D : Dk) (k : Int) (hk : 0 ≤ k ∧ k < 64) (ho : D.off = false) : D.read k = ((D.fs k).1, 0) := by unfold Dk.read; rw [if_neg (fun h => h hk), ho]; rfl
theorem read_off (D : Dk) (k : Int) (hk : 0 ≤ k ∧ k < 64) (ho : D.off = true) : D.read k = ([], 19) := by unfold Dk.read; rw [if_neg (fun h => h hk), ho]; rfl
theorem trunc_bad (D : Dk) (k s : Int) (h : ¬ (0 ≤ k ∧ k < 64) ∨ s < 0 ∨ ((D.fs k).1.length : Int) < s) : D.trunc k s = (1, D) := by unfold Dk.trunc; rw [if_pos h]
set_option maxRecDepth 20000 in
set_option maxHeartbeats 2000000 in
theorem law_DiskArguments (room file size : Int) (bv : Value) (b : List UInt8) (w : World) (hb : Rv w bv b.length (b.map vB)) (hsz : size ≤ 9223372036854775807) :
    Calls Try.prog 4 #[.int .i64 room, .int .i64 file, .int .i64 size, bv] w fun e w' => e = .returned (.bool true) ∧ Below w.heap.size w w' := by
  obtain ⟨ab, cb, rfl, _, _⟩ := hb.opened
  go_enter Try.func4, Try.ntmps4
  by_cases hr : 0 ≤ room ∧ room ≤ 16777216
  · have hr0 : ¬ room < 0 := by omega
    have hr1 : ¬ 16777216 < room := by omega
    go_wp2_with fail
    refine (dnew w room hr.1 hr.2).mono ?_
    rintro e w1 ⟨p, X, rfl, D1, hX, B1⟩
    go_wp2_with fail
    refine (few_any _ b 60 (by decide) w1 (hb.below B1)).mono ?_
    rintro e w2 ⟨v, rfl, M⟩
    obtain ⟨ow, how⟩ : ∃ l, b.take 60 = l := ⟨_, rfl⟩
    rw [how] at M
    have hol : ow.length ≤ 60 := by rw [← how, List.length_take]; omega
    have O := M.1
    rw [List.length_map] at O
    have D2 := D1.later M.2
    have hO : Off v X := Off.ge O D1.xl
    have B2 := bel B1 M.2
    obtain ⟨a, c, rfl⟩ := own_isSlice O
    obtain ⟨n, hn⟩ : ∃ n, ow.length = n := ⟨_, rfl⟩
    have HN := Lib.hid hn
    rw [hn] at hol
    clear M how D1 B1 hb hn
    by_cases hf : 0 ≤ file ∧ file < 64
    · have hf0 : ¬ file < 0 := by omega
      have hf1 : ¬ 63 < file := by omega
      by_cases hfull : room < n
      · have ha := newD_full room file ow hf (by rw [HN.out]; exact hfull)
        go_wp2_with fail
        refine (dappend w2 file _ ow D2 (Rv.of_own O) hO (by rw [HN.out]; omega)).mono ?_
        rw [ha]
        rintro e w3 ⟨rfl, X3, D3, S3⟩
        have B3 := B2.trans (S3.toBelow B2.size hX)
        clear D2 B2 S3 O
        rw [HN.out]
        go_wp2_with fail
        refine (dread w3 file D3).mono ?_
        rw [read_on _ _ hf rfl]
        rintro e w4 ⟨v4, rfl, O4, B4⟩
        replace O4 : w4.ownsRow w3.heap.size 5 1 v4 0 [] := O4
        obtain ⟨a4, c4, rfl⟩ := own_isSlice O4
        have D4 := D3.later B4
        have B4' := bel B3 B4
        clear D3 B3 B4 O4
        go_wp2_with fail
        refine (dused w4 D4).mono ?_
        rw [newD_used]
        rintro e w5 ⟨rfl, n5, rfl⟩
        have B5 := belD B4' n5
        generalize w4.drewN n5 = w5 at B5 ⊢
        clear D4 B4'
        go_wp2_with fail
        refine (lives30_any w5).mono ?_
        rintro e w6 ⟨rfl, B6⟩
        have B6' := bel B5 B6
        go_wp2_with fail
        go_ret
        exact ⟨rfl, B6'⟩
      · have ha := newD_ok room file ow hf (by rw [HN.out]; exact hfull)
        go_wp2_with fail
        refine (dappend w2 file _ ow D2 (Rv.of_own O) hO (by rw [HN.out]; omega)).mono ?_
        rw [ha]
        rintro e w3 ⟨rfl, X3, D3, S3⟩
        replace D3 : DAt w3 p X3 ((newD room).put file ow 0) := D3
        have B3 := B2.trans (S3.toBelow B2.size hX)
        have hX3 := S3.ge B2.size hX
        have O3 := own_step O S3 hO
        have hO3 := hO.step S3 O
        have hused : ((newD room).put file ow 0).used = n := by
          have h1 := (newD room).used_put file ow 0 hf.1 hf.2
          rw [newD_used, HN.out] at h1
          have h2 : ((newD room).fs file).1.length = 0 := rfl
          omega
        have hfs : (((newD room).put file ow 0).fs file).1 = ow := by rw [put_fs]
        have hoff : ((newD room).put file ow 0).off = false := rfl
        have harm : ((newD room).put file ow 0).failsB = false := rfl
        have hfai : ((newD room).put file ow 0).fails = ((newD room).put file ow 0) := rfl
        obtain ⟨E, hE⟩ : ∃ E, (newD room).put file ow 0 = E := ⟨_, rfl⟩
        rw [hE] at D3 hused hfs hoff harm hfai
        have hrd := read_on E file hf hoff
        rw [hfs] at hrd
        have HFS := Lib.hid hfs
        have HOFF := Lib.hid hoff
        have HARM := Lib.hid harm
        have HFAI := Lib.hid hfai
        have HUS := Bx.mk hused
        clear D2 B2 S3 O hO hX ha hE hfs hoff harm hfai hused
        rw [HN.out]
        go_wp2_with fail
        refine (dread w3 file D3).mono ?_
        rw [hrd]
        rintro e w4 ⟨v4, rfl, O4, B4⟩
        replace O4 : w4.ownsRow w3.heap.size 5 1 v4 ow.length (ow.map vB) := O4
        have D4 := D3.later B4
        have P4 := own_below O3 B4
        have B4' := bel B3 B4
        clear D3 B3 B4 O3 hrd
        go_wp2_with fail
        refine (sameBytes_refl _ _ ow w4 (Rv.of_own O4) (by
          have := Rv.of_own P4
          rw [HN.out] at this ⊢
          exact this)).mono ?_
        rintro e w5 ⟨rfl, n5, rfl⟩
        have D5 := D4.later (belD (Below.refl _ _) n5)
        have P5 := own_below P4 (belD (Below.refl _ _) n5)
        have B5 := belD B4' n5
        generalize w4.drewN n5 = w5 at D5 P5 B5 ⊢
        clear D4 P4 B4' O4
        by_cases hs0 : size < 0
        · go_wp2_with fail
          refine (dtrunc w5 file size hsz D5).mono ?_
          rw [trunc_bad _ _ _ (.inr (.inl hs0))]
          rintro e w6 ⟨rfl, X6, D6, S6⟩
          replace D6 : DAt w6 p X6 E := D6
          have B6 := B5.trans (S6.toBelow B5.size hX3)
          clear D5 P5 B5 S6
          go_wp2_with fail
          refine (dused w6 D6).mono ?_
          rw [HUS.out]
          rintro e w7 ⟨rfl, n7, rfl⟩
          have B7 := belD B6 n7
          generalize w6.drewN n7 = w7 at B7 ⊢
          clear D6 B6
          go_wp2_with fail
          refine (lives30_any w7).mono ?_
          rintro e w8 ⟨rfl, B8⟩
          have B8' := bel B7 B8
          go_wp2_with fail
          go_ret
          exact ⟨rfl, B8'⟩
        · by_cases hs1 : (n : Int) < size
          · go_wp2_with fail
            refine (dtrunc w5 file size hsz D5).mono ?_
            rw [trunc_bad _ _ _ (.inr (.inr (by rw [HFS.out, HN.out]; exact hs1)))]
            rintro e w6 ⟨rfl, X6, D6, S6⟩
            replace D6 : DAt w6 p X6 E := D6
            have B6 := B5.trans (S6.toBelow B5.size hX3)
            clear D5 P5 B5 S6
            go_wp2_with fail
            refine (dused w6 D6).mono ?_
            rw [HUS.out]
            rintro e w7 ⟨rfl, n7, rfl⟩
            have B7 := belD B6 n7
            generalize w6.drewN n7 = w7 at B7 ⊢
            clear D6 B6
            go_wp2_with fail
            refine (lives30_any w7).mono ?_
            rintro e w8 ⟨rfl, B8⟩
            have B8' := bel B7 B8
            go_wp2_with fail
            go_ret
            exact ⟨rfl, B8'⟩
          · obtain ⟨s, rfl⟩ : ∃ s : Nat, size = (s : Int) := ⟨size.toNat, by omega⟩
            have ht : E.trunc file (s : Int) = (0, E.put file (ow.take s) (min (E.fs file).2 s)) := by
              unfold Dk.trunc
              rw [if_neg, HOFF.out, if_neg (by simp), HARM.out, if_neg (by simp), HFAI.out, HFS.out, Int.toNat_natCast]
              rw [HFS.out, HN.out]
              exact fun h => h.elim (fun h => h hf) (fun h => h.elim hs0 hs1)
            have hrd2 : (E.put file (ow.take s) (min (E.fs file).2 s)).read file = (ow.take s, 0) := by
              rw [read_on (E.put file (ow.take s) (min (E.fs file).2 s)) file hf HOFF.out, put_fs]
            have hts : (ow.take s).length = s := by rw [List.length_take, HN.out]; omega
            obtain ⟨E2, hE2⟩ : ∃ E2, E.put file (ow.take s) (min (E.fs file).2 s) = E2 := ⟨_, rfl⟩
            rw [hE2] at ht hrd2
            have HTS := Lib.hid hts
            clear hE2 hts
            go_wp2_with fail
            refine (dtrunc w5 file s hsz D5).mono ?_
            rw [ht]
            rintro e w6 ⟨rfl, X6, D6, S6⟩
            replace D6 : DAt w6 p X6 E2 := D6
            have B6 := B5.trans (S6.toBelow B5.size hX3)
            have P6 := own_step P5 S6 hO3
            clear D5 P5 B5 S6 ht
            go_wp2_with fail
            refine (dread w6 file D6).mono ?_
            rw [hrd2]
            rintro e w7 ⟨v7, rfl, O7, B7⟩
            replace O7 : w7.ownsRow w6.heap.size 5 1 v7 (ow.take s).length ((ow.take s).map vB) := O7
            have P7 := own_below P6 B7
            have B7' := bel B6 B7
            have hcap : n ≤ c := by
              obtain ⟨_, _, e, h, _⟩ := (Rv.of_own P7).opened
              cases e
              rw [HN.out] at h
              exact h
            have PC := own_cut P7 s (by rw [HN.out]; omega)
            rw [← List.map_take] at PC
            clear D6 P6 B6 B7 P7
            go_wp2_with fail
            refine (sameBytes_refl _ _ (ow.take s) w7 (Rv.of_own O7) (by
              have := Rv.of_own PC
              rw [HTS.out]
              exact this)).mono ?_
            rintro e w8 ⟨rfl, n8, rfl⟩
            have B8 := belD B7' n8
            generalize w7.drewN n8 = w8 at B8 ⊢
            go_wp2_with fail
            refine (lives30_any w8).mono ?_
            rintro e w9 ⟨rfl, B9⟩
            have B9' := bel B8 B9
            go_wp2_with fail
            go_ret
            exact ⟨rfl, B9'⟩
    · have ha := newD_bad room file ow hf
      go_wp2_with fail
      refine (dappend w2 file _ ow D2 (Rv.of_own O) hO (by rw [HN.out]; omega)).mono ?_
      rw [ha]
      rintro e w3 ⟨rfl, X3, D3, S3⟩
      have B3 := B2.trans (S3.toBelow B2.size hX)
      have hX3 := S3.ge B2.size hX
      clear D2 B2 S3 O
      rw [HN.out]
      go_wp2_with fail
      refine (dread w3 file D3).mono ?_
      rw [read_bad _ _ hf]
      rintro e w4 ⟨v4, rfl, O4, B4⟩
      replace O4 : w4.ownsRow w3.heap.size 5 1 v4 0 [] := O4
      obtain ⟨a4, c4, rfl⟩ := own_isSlice O4
      have D4 := D3.later B4
      have B4' := bel B3 B4
      clear D3 B3 B4 O4
      by_cases hf0 : file < 0
      · go_wp2_with fail
        refine (dtrunc w4 file 0 (by decide) D4).mono ?_
        rw [trunc_bad _ _ _ (.inl hf)]
        rintro e w5 ⟨rfl, X5, D5, S5⟩
        replace D5 : DAt w5 p X5 (newD room) := D5
        have B5 := B4'.trans (S5.toBelow B4'.size hX3)
        clear D4 B4' S5
        go_wp2_with fail
        refine (dused w5 D5).mono ?_
        rw [newD_used]
        rintro e w6 ⟨rfl, n6, rfl⟩
        have B6 := belD B5 n6
        generalize w5.drewN n6 = w6 at B6 ⊢
        clear D5 B5
        go_wp2_with fail
        refine (lives30_any w6).mono ?_
        rintro e w7 ⟨rfl, B7⟩
        have B7' := bel B6 B7
        go_wp2_with fail
        go_ret
        exact ⟨rfl, B7'⟩
      · have hf1 : 63 < file := by omega
        go_wp2_with fail
        refine (dtrunc w4 file 0 (by decide) D4).mono ?_
        rw [trunc_bad _ _ _ (.inl hf)]
        rintro e w5 ⟨rfl, X5, D5, S5⟩
        replace D5 : DAt w5 p X5 (newD room) := D5
        have B5 := B4'.trans (S5.toBelow B4'.size hX3)
        clear D4 B4' S5
        go_wp2_with fail
        refine (dused w5 D5).mono ?_
        rw [newD_used]
        rintro e w6 ⟨rfl, n6, rfl⟩
        have B6 := belD B5 n6
        generalize w5.drewN n6 = w6 at B6 ⊢
        clear D5 B5
        go_wp2_with fail
        refine (lives30_any w6).mono ?_
        rintro e w7 ⟨rfl, B7⟩
        have B7' := bel B6 B7
        go_wp2_with fail
        go_ret
        exact ⟨rfl, B7'⟩
  · by_cases hr0 : room < 0
    · go_wp2_with fail
      refine (new_bad room (.inl hr0) w).mono ?_
      rintro e w1 ⟨rfl, rfl⟩
      go_wp2_with fail
      refine (lives30_any _).mono ?_
      rintro e w7 ⟨rfl, B7⟩
      go_wp2_with fail
      go_ret
      exact ⟨rfl, B7⟩
    · have hr1 : 16777216 < room := by omega
      go_wp2_with fail
      refine (new_bad room (.inr hr1) w).mono ?_
      rintro e w1 ⟨rfl, rfl⟩
      go_wp2_with fail
      refine (lives30_any _).mono ?_
      rintro e w7 ⟨rfl, B7⟩
      go_wp2_with fail
      go_ret
      exact ⟨rfl, B7⟩
end Go.Proofs.Ytmofakcpldbbmaa
