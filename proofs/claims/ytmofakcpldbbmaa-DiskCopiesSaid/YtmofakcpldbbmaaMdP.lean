/- The law DiskCopies. -/
import Derived.Test.YtmofakcpldbbmaaMdN
namespace Go.Proofs.Ytmofakcpldbbmaa
open Go.RowKit

section
variable {B : Nat} {W W' : World} {p q : Nat} {X Y : Nat → Prop} {D E : Dk} {v : Value} {l : List OV}
theorem PairX.pair (h : PairX B W p q X Y D E v l) : Pair B W p q D E v l := ⟨X, Y, h⟩
theorem PairX.later (h : PairX B W p q X Y D E v l) (hb : Below W.heap.size W W') : PairX B W' p q X Y D E v l := by
  obtain ⟨b0, ho⟩ := h.os
  exact ⟨h.d.later hb, h.m.later hb, h.sep, ⟨b0, ho.later hb⟩, h.ox, h.oy, h.lx, h.ly⟩
theorem PairX.do (h : PairX B W p q X Y D E v l) {i : Nat} {o : OV} (hi : l[i]? = some o) (hB : B ≤ W.heap.size) :
    Calls Try.prog 29 #[.pointer (some ⟨p, 0, none⟩), .agg #[.int .i64 o.o.k, .int .i64 o.o.f, .int .i64 o.o.n, o.bv, o.kv]] W fun e w' => e = .returned (.int .i64 (D.doOp o.o).1) ∧ ∃ X', PairX B w' p q X' Y (D.doOp o.o).2 E v l ∧ DStep X X' W w' ∧ Below B W w' := by
  have hr := h.pair.rd hi
  have ho := h.ox.2 o (List.mem_of_getElem? hi)
  refine (do_any o W h.d hr ho.1 ho.2).mono ?_
  rintro e w' ⟨rfl, X', D', S⟩
  obtain ⟨b0, hos⟩ := h.os
  obtain ⟨h1, h2⟩ := hos.step2 S h.ox
  exact ⟨rfl, X', ⟨D', h.m.other S h.sep, h.sep.step S h.m.yl, ⟨b0, h1⟩, h2, h.oy, S.ge hB h.lx, h.ly⟩, S, S.toBelow hB h.lx⟩
theorem PairX.mdo (h : PairX B W p q X Y D E v l) {i : Nat} {o : OV} (hi : l[i]? = some o) (hB : B ≤ W.heap.size) :
    Calls Try.prog 30 #[.pointer (some ⟨q, 0, none⟩), .agg #[.int .i64 o.o.k, .int .i64 o.o.f, .int .i64 o.o.n, o.bv, o.kv]] W fun e w' => e = .returned (.int .i64 (E.doOp o.o).1) ∧ ∃ Y', PairX B w' p q X Y' D (E.doOp o.o).2 v l ∧ DStep Y Y' W w' ∧ Below B W w' := by
  have hr := h.pair.rd hi
  have ho := h.oy.2 o (List.mem_of_getElem? hi)
  refine (mdo_any o W h.m hr ho.1 ho.2).mono ?_
  rintro e w' ⟨rfl, Y', M', S⟩
  obtain ⟨b0, hos⟩ := h.os
  obtain ⟨h1, h2⟩ := hos.step2 S h.oy
  exact ⟨rfl, Y', ⟨h.d.other S h.sep.symm, M', (h.sep.symm.step S h.d.xl).symm, ⟨b0, h1⟩, h.ox, h2, h.lx, S.ge hB h.ly⟩, S, S.toBelow hB h.ly⟩
end
def foldD (D : Dk) (l : List OV) : Dk := l.foldl (fun D o => (D.doOp o.o).2) D
theorem foldD_succ (D : Dk) (l : List OV) {i : Nat} {o : OV} (h : l[i]? = some o) : foldD D (l.take (i + 1)) = ((foldD D (l.take i)).doOp o.o).2 := by
  unfold foldD
  rw [List.take_add_one, h, List.foldl_append]
  rfl
set_option linter.unusedSimpArgs false in
set_option maxRecDepth 20000 in
set_option maxHeartbeats 4000000 in
theorem law_DiskCopies (room : Int) (v u : Value) (l m : List Int) (w : World) (hr : -9223372036854775808 ≤ room ∧ room ≤ 9223372036854775807) (hv : Rv w v l.length (l.map (Value.int .i64))) (hx : ∀ x ∈ l, -9223372036854775808 ≤ x ∧ x ≤ 9223372036854775807)
    (hu : Rv w u m.length (m.map (Value.int .i64))) (hy : ∀ x ∈ m, -9223372036854775808 ≤ x ∧ x ≤ 9223372036854775807) :
    Calls Try.prog 8 #[.int .i64 room, v, u] w fun e w' => e = .returned (.bool true) ∧ Below w.heap.size w w' := by
  obtain ⟨av, cv, rfl, _, _⟩ := hv.opened
  obtain ⟨au, cu, rfl, _, _⟩ := hu.opened
  have HY := Bx.mk hy
  clear hy
  go_enter Try.func8, Try.ntmps8
  go_wp2_with fail
  refine (made_any room _ l w hr hv hx).mono ?_
  rintro e w1 ⟨p, q, X, Y, D, rfl, D1, M1, sep, lX, lY, B1⟩
  clear hr hx
  go_wp2_with fail
  refine (dcopy w1 D1).mono ?_
  rintro e w2 ⟨c, Z, rfl, C2, hZ, B2⟩
  have D2 := D1.later B2
  have M2 := M1.later B2
  have B2' := bel B1 B2
  have sXZ : Sep X Z := fun b hx hz => by have h1 := D1.xl b hx; have h2 := hZ b hz; omega
  have sYZ : Sep Y Z := fun b hx hz => by have h1 := M1.yl b hx; have h2 := hZ b hz; omega
  have hs1 := B1.size
  have lZ : ∀ b, Z b → w.heap.size ≤ b := fun b hb => by have := hZ b hb; omega
  clear D1 M1 B1 hZ B2 hs1
  go_wp2_with fail
  refine (same_any w2 C2 M2).mono ?_
  rintro e w3 ⟨rfl, B3⟩
  have D3 := D2.later B3
  have M3 := M2.later B3
  have C3 := C2.later B3
  have B3' := bel B2' B3
  clear D2 M2 C2 B2' B3
  go_wp2_with fail
  refine (ops_any _ m w3 (hu.below B3') HY.out).mono ?_
  rintro e w4 ⟨v4, L, rfl, O4, hL, B4⟩
  have B4' := bel B3' B4
  have D4 := D3.later B4
  have hs3 := B3'.size
  have P4 : PairX w.heap.size w4 c q Z Y D D v4 L := ⟨C3.later B4, M3.later B4, sYZ.symm, ⟨_, O4⟩, OsOff.new O4 C3.xl, OsOff.new O4 M3.yl, lZ, lY⟩
  obtain ⟨a3, c3, rfl⟩ := P4.pair.slice
  obtain ⟨Ln, hLn⟩ : ∃ n, L.length = n := ⟨_, rfl⟩
  rw [hLn] at P4 hL ⊢
  have HL := Bx.mk hLn
  clear M3 C3 B3' O4 B4 hLn hs3 sYZ lZ
  go_wp2_with fail
  go_loopw [11] (fun u W => ∃ (i : Nat) (Z : Nat → Prop), u = .int .i64 (i : Int) ∧ i ≤ Ln ∧ PairX w.heap.size W c q Z Y (foldD D (L.take i)) D (.slice a3 Ln c3) L ∧ DAt W p X D ∧ Sep Z X ∧ Below w.heap.size w W) (fun u _ => Ln - (intOf u).toNat)
  case atStart => exact ⟨0, Z, rfl, Nat.zero_le _, P4, D4, sXZ.symm, B4'⟩
  case round =>
    clear P4 D4 sXZ B4' D3
    rename World => W
    obtain ⟨i, Z, rfl, hi, P, D4, sZX, B⟩ := hrel
    by_cases hlt : i < Ln
    · have hlti : (i : Int) < (Ln : Int) := by omega
      obtain ⟨o, ho⟩ : ∃ o, L[i]? = some o := ⟨_, List.getElem?_eq_getElem (by rw [HL.out]; exact hlt)⟩
      obtain ⟨g, cc, e⟩ := P.pair.slice1 (by rw [HL.out]; omega)
      injection e with e1 e2 e3
      clear e2
      subst e1
      have HO := Bx.mk ho
      have HF := Bx.mk (foldD_succ D L ho)
      obtain ⟨k0, k1, k2, k3, k4⟩ := P.pair.at ho
      clear ho e3
      go_wp2_with fail
      refine (P.do HO.out B.size).mono ?_
      rintro e w4 ⟨rfl, Z', P5, S5, B5⟩
      rw [← HF.out] at P5
      have B5' := B.trans B5
      have D5 := D4.other S5 sZX
      have s5 := sZX.step S5 D4.xl
      clear P D4 B5 S5 k0 k1 k2 k3 k4 sZX
      go_wp2_with fail
      go_roundw
      case rel => exact ⟨i + 1, Z', by simp, hlt, P5, D5, s5, B5'⟩
      case measure => simp [intOf]; omega
    · obtain rfl : Ln = i := by omega
      have hT : L.take Ln = L := List.take_of_length_le (by rw [HL.out]; exact Nat.le_refl _)
      rw [hT] at P
      have HT := Bx.mk hT
      clear hT
      go_wp2_with fail
      refine (same_any W D4 P.m).mono ?_
      rintro e w5 ⟨rfl, B5⟩
      have B5' := bel B B5
      have P5 := P.later B5
      have D5 := D4.later B5
      clear P D4 B B5
      go_wp2_with fail
      refine (dcopy w5 D5).mono ?_
      rintro e w6 ⟨g6, A, rfl, A6, hA, B6⟩
      have P6 := P5.later B6
      have B6' := bel B5' B6
      obtain ⟨b0, ho6⟩ := P5.os
      have hs5 := B5'.size
      have sAY : Sep A Y := fun b ha hy => by have h1 := hA b ha; have h2 := P5.m.yl b hy; omega
      have sAZ : Sep A Z := fun b ha hy => by have h1 := hA b ha; have h2 := P5.d.xl b hy; omega
      have Q6 : PairX w.heap.size w6 g6 q A Y (foldD D (L.take 0)) (foldD D (L.take 0)) (.slice a3 Ln c3) L := ⟨A6, P6.m, sAY, P6.os, OsOff.above ho6 hA, P6.oy, (fun b hb => by have := hA b hb; omega), P6.ly⟩
      have C6 := P6.d
      have sYZ := P6.sep.symm
      clear P5 D5 P6 A6 hA B6 B5' ho6 hs5 sAY
      go_wp2_with fail
      go_loopw [13] (fun u W => ∃ (i : Nat) (A Y : Nat → Prop), u = .int .i64 (i : Int) ∧ i ≤ Ln ∧ PairX w.heap.size W g6 q A Y (foldD D (L.take i)) (foldD D (L.take i)) (.slice a3 Ln c3) L ∧ DAt W c Z (foldD D L) ∧ Sep A Z ∧ Sep Y Z ∧ Below w.heap.size w W) (fun u _ => Ln - (intOf u).toNat)
      case atStart => exact ⟨0, A, Y, rfl, Nat.zero_le _, Q6, C6, sAZ, sYZ, B6'⟩
      case round =>
        clear Q6 C6 sAZ sYZ B6' hlt
        rename World => W
        obtain ⟨i, A, Y, rfl, hi, P, C, sAZ, sYZ, B⟩ := hrel
        by_cases hlt : i < Ln
        · have hlti : (i : Int) < (Ln : Int) := by omega
          obtain ⟨o, ho⟩ : ∃ o, L[i]? = some o := ⟨_, List.getElem?_eq_getElem (by rw [HL.out]; exact hlt)⟩
          obtain ⟨g, cc, e⟩ := P.pair.slice1 (by rw [HL.out]; omega)
          injection e with e1 e2 e3
          clear e2
          subst e1
          have HO := Bx.mk ho
          have HF := Bx.mk (foldD_succ D L ho)
          clear ho e3
          go_upto_region 20 with fail
          go_cut [76] from 64 to 76 (fun u wx => u = .bool false ∧ (∃ A Y : Nat → Prop, PairX w.heap.size wx g6 q A Y (foldD D (L.take (i + 1))) (foldD D (L.take (i + 1))) (.slice (some ⟨g, 0, none⟩) Ln c3) L ∧ DAt wx c Z (foldD D L) ∧ Sep A Z ∧ Sep Y Z) ∧ Below w.heap.size w wx)
          case first =>
            have P0 := P.later (Below.refl W.heap.size W).drew
            have C0 := C.later (Below.refl W.heap.size W).drew
            have s0 := P0.pair.at HO.out
            have B0 := B.drew
            refine wp_region_held_drew (S := fun W' => W'.cell? ⟨g, i * 5, none⟩ = some (.int .i64 o.o.k) ∧ W'.cell? ⟨g, i * 5 + 1, none⟩ = some (.int .i64 o.o.f) ∧ W'.cell? ⟨g, i * 5 + 2, none⟩ = some (.int .i64 o.o.n) ∧ W'.cell? ⟨g, i * 5 + 3, none⟩ = some o.bv ∧ W'.cell? ⟨g, i * 5 + 4, none⟩ = some o.kv) (by kernel_rfl) s0 (fun _ => ?_)
            refine wpAnyH_do 0 64 rfl rfl (by kernel_rfl) (by kernel_rfl) (by kernel_rfl) (fun _ _ _ _ _ h => h) (by kernel_rfl) (fun W hS => by (obtain ⟨s1, s2, s3, s4, s5⟩ := hS); go_simp; try with_reducible rfl) s0 ?_
            simp only [List.setIfInBounds_toArray, List.set_cons_succ, List.set_cons_zero]
            refine wpAnyH_do 1 65 rfl rfl (by kernel_rfl) (by kernel_rfl) (by kernel_rfl) (fun _ _ _ _ _ h => h) (by kernel_rfl) (fun W hS => by (obtain ⟨s1, s2, s3, s4, s5⟩ := hS); go_simp; try with_reducible rfl) s0 ?_
            simp only [List.setIfInBounds_toArray, List.set_cons_succ, List.set_cons_zero]
            refine wpAnyH_do 2 66 rfl rfl (by kernel_rfl) (by kernel_rfl) (by kernel_rfl) (fun _ _ _ _ _ h => h) (by kernel_rfl) (fun W hS => by (obtain ⟨s1, s2, s3, s4, s5⟩ := hS); go_simp; try with_reducible rfl) s0 ?_
            simp only [List.setIfInBounds_toArray, List.set_cons_succ, List.set_cons_zero]
            refine wpAnyH_do 3 67 rfl rfl (by kernel_rfl) (by kernel_rfl) (by kernel_rfl) (fun _ _ _ _ _ h => h) (by kernel_rfl) (fun W hS => by (obtain ⟨s1, s2, s3, s4, s5⟩ := hS); go_simp; try with_reducible rfl) s0 ?_
            simp only [List.setIfInBounds_toArray, List.set_cons_succ, List.set_cons_zero]
            refine wpAnyH_do 4 68 rfl rfl (by kernel_rfl) (by kernel_rfl) (by kernel_rfl) (fun _ _ _ _ _ h => h) (by kernel_rfl) (fun W hS => by (obtain ⟨s1, s2, s3, s4, s5⟩ := hS); go_simp; try with_reducible rfl) s0 ?_
            simp only [List.setIfInBounds_toArray, List.set_cons_succ, List.set_cons_zero]
            refine wpAnyH_do 6 70 rfl rfl (by kernel_rfl) (by kernel_rfl) (by kernel_rfl) (fun _ _ _ _ _ h => h) (by kernel_rfl) (fun W hS => by (obtain ⟨s1, s2, s3, s4, s5⟩ := hS); go_simp; try with_reducible rfl) s0 ?_
            simp only [List.setIfInBounds_toArray, List.set_cons_succ, List.set_cons_zero]
            refine wpAnyH_do 7 71 rfl rfl (by kernel_rfl) (by kernel_rfl) (by kernel_rfl) (fun _ _ _ _ _ h => h) (by kernel_rfl) (fun W hS => by (obtain ⟨s1, s2, s3, s4, s5⟩ := hS); go_simp; try with_reducible rfl) s0 ?_
            simp only [List.setIfInBounds_toArray, List.set_cons_succ, List.set_cons_zero]
            refine wpAnyH_do 8 72 rfl rfl (by kernel_rfl) (by kernel_rfl) (by kernel_rfl) (fun _ _ _ _ _ h => h) (by kernel_rfl) (fun W hS => by (obtain ⟨s1, s2, s3, s4, s5⟩ := hS); go_simp; try with_reducible rfl) s0 ?_
            simp only [List.setIfInBounds_toArray, List.set_cons_succ, List.set_cons_zero]
            refine wpAnyH_do 9 73 rfl rfl (by kernel_rfl) (by kernel_rfl) (by kernel_rfl) (fun _ _ _ _ _ h => h) (by kernel_rfl) (fun W hS => by (obtain ⟨s1, s2, s3, s4, s5⟩ := hS); go_simp; try with_reducible rfl) s0 ?_
            simp only [List.setIfInBounds_toArray, List.set_cons_succ, List.set_cons_zero]
            refine wpAnyH_do 10 74 rfl rfl (by kernel_rfl) (by kernel_rfl) (by kernel_rfl) (fun _ _ _ _ _ h => h) (by kernel_rfl) (fun W hS => by (obtain ⟨s1, s2, s3, s4, s5⟩ := hS); go_simp; try with_reducible rfl) s0 ?_
            simp only [List.setIfInBounds_toArray, List.set_cons_succ, List.set_cons_zero]
            refine wpAnyH_one 5 rfl (by kernel_rfl) (by kernel_rfl) (fun K hK => ?_)
            go_simp
            refine (P0.do HO.out B0.size).mono ?_
            rintro e w4 ⟨rfl, A4, P4, S4, B4⟩
            have B4' := B0.trans B4
            have C4 := C0.other S4 sAZ
            have sA4 := sAZ.step S4 C0.xl
            have s4 := P4.pair.at HO.out
            refine hK _ _ s4 ?_
            clear hK
            try simp only [Act.put, List.setIfInBounds_toArray, List.set_cons_zero, List.set_cons_succ]
            refine wpAnyH_one 11 rfl (by kernel_rfl) (by kernel_rfl) (fun K hK => ?_)
            go_simp
            refine (P4.mdo HO.out B4'.size).mono ?_
            rintro e w5 ⟨rfl, Y5, P5, S5, B5⟩
            have B5' := B4'.trans B5
            have C5 := C4.other S5 sYZ
            have sY5 := sYZ.step S5 C4.xl
            have s5 := P5.pair.at HO.out
            rw [← HF.out] at P5
            refine hK _ _ s5 ?_
            clear hK
            obtain ⟨R, hR⟩ : ∃ R, ((foldD D (L.take i)).doOp o.o).1 = R := ⟨_, rfl⟩
            rw [hR]
            try simp only [Act.put, List.setIfInBounds_toArray, List.set_cons_zero, List.set_cons_succ]
            have HREL := Bx.mk (And.intro (show ∃ A Y : Nat → Prop, PairX w.heap.size w5 g6 q A Y (foldD D (L.take (i + 1))) (foldD D (L.take (i + 1))) (.slice (some ⟨g, 0, none⟩) Ln c3) L ∧ DAt w5 c Z (foldD D L) ∧ Sep A Z ∧ Sep Y Z from ⟨_, _, P5, C5, sA4, sY5⟩) B5')
            clear P0 P4 P s0 s4 P5 C5 C4 C0 B5' B4' hR S4 S5
            refine wpAnyH_do 12 76 rfl rfl (by kernel_rfl) (by kernel_rfl) (by kernel_rfl) (fun _ _ _ _ _ h => h) (by kernel_rfl) (fun W hS => by (obtain ⟨s1, s2, s3, s4, s5⟩ := hS); go_simp; try with_reducible rfl) s5 ?_
            simp only [List.setIfInBounds_toArray, List.set_cons_succ, List.set_cons_zero]
            refine wpAnyH_done (by kernel_rfl) ?_ _
            clear s5
            go_wp2_with fail
            go_meet
            exact ⟨rfl, HREL.out⟩
          case rest =>
          obtain ⟨rfl, ⟨A5, Y5, P5, C5, sA5, sY5⟩, B5⟩ := hcut
          clear P C
          go_wp2_with fail
          go_roundw
          case rel => exact ⟨i + 1, A5, Y5, by simp, hlt, P5, C5, sA5, sY5, B5⟩
          case measure => simp [intOf]; omega
        · obtain rfl : Ln = i := by omega
          rw [HT.out] at P
          go_wp2_with fail
          refine (same_any W P.d P.m).mono ?_
          rintro e w7 ⟨rfl, B7⟩
          have B7' := bel B B7
          have M7 := P.m.later B7
          have C7 := C.later B7
          clear P C B B7
          go_wp2_with fail
          refine (same_any w7 C7 M7).mono ?_
          rintro e w8 ⟨rfl, B8⟩
          have B8' := bel B7' B8
          clear M7 C7 B7' B8
          go_wp2_with fail
          refine (lives30_any _).mono ?_
          rintro e w9 ⟨rfl, B9⟩
          have B9' := bel B8' B9
          go_wp2_with fail
          go_ret
          exact ⟨rfl, B9'⟩
end Go.Proofs.Ytmofakcpldbbmaa
