/- The law TextLines. -/
import Derived.Test.YtcknnlbfbjcjjaaDoorTxtS
import Derived.Deep.QuietTactic
namespace Go.Proofs.YtcknnlbfbjcjjaaDoor
open Go.RowKit

theorem lnsFrom_app (k : Nat) (a b : List Int) : lnsFrom k (a ++ b) = lnsFrom k a ++ lnsFrom (k + a.length) b := by
  induction a generalizing k with
  | nil => simp [lnsFrom]
  | cons c a ih =>
    rw [List.cons_append, lnsFrom, lnsFrom, ih (k + 1), List.length_cons, show k + 1 + a.length = k + (a.length + 1) from by omega]
    split <;> rfl
theorem lnsFrom_shift (k j : Nat) (b : List Int) : lnsFrom (j + k) b = (lnsFrom j b).map (· + (k : Int)) := by
  induction b generalizing j with
  | nil => rfl
  | cons c b ih =>
    rw [lnsFrom, lnsFrom, show j + k + 1 = (j + 1) + k from by omega, ih (j + 1)]
    split
    · rw [List.map_cons]; congr 1
    · rfl
theorem lns_app (a b : List Int) : lns (a ++ b) = lns a ++ (lnsFrom 0 b).map (· + (a.length : Int)) := by
  rw [lns, lnsFrom_app, lns, show lnsFrom (0 + a.length) b = _ from lnsFrom_shift a.length 0 b]
  rfl
theorem lns_at (l : List Int) (i : Nat) (h : i < l.length) (hc : l[i] = 10) : (lns l)[(lns (l.take i)).length]? = some ((i + 1 : Nat) : Int) := by
  have h1 : lns l = lns (l.take i) ++ lnsFrom i (l.drop i) := by
    rw [lns, lns, ← List.cons_append.symm]
    congr 1
    have := lnsFrom_app 0 (l.take i) (l.drop i)
    rw [List.take_append_drop, List.length_take, Nat.min_eq_left (by omega), Nat.zero_add] at this
    exact this
  rw [h1, List.getElem?_append_right (Nat.le_refl _), Nat.sub_self, List.drop_eq_getElem_cons h, lnsFrom, if_pos hc]
  rfl
theorem lnsFrom_le (k : Nat) (l : List Int) : ∀ x ∈ lnsFrom k l, 0 ≤ x ∧ x ≤ ((k + l.length : Nat) : Int) := by
  induction l generalizing k with
  | nil => intro x hx; cases hx
  | cons c l ih =>
    intro x hx
    rw [lnsFrom] at hx
    have ih' := ih (k + 1)
    rw [List.length_cons]
    split at hx
    · rcases List.mem_cons.1 hx with rfl | hx
      · omega
      · have := ih' x hx; omega
    · have := ih' x hx; omega
theorem textM_len (l : List Int) (most : Nat) (runes : Bool) : (textM l most runes).length ≤ most := by
  rw [textM, List.length_map, List.length_take]; omega

theorem lines_pair (a b : List Int) (i : Nat) (h1 : 1 ≤ i) (hi : i < (lns b).length) : ∃ y : Int, (lns b)[i]? = some y ∧ 0 ≤ y ∧ y ≤ (b.length : Int) ∧ (lns (a ++ b))[(lns a).length + i - 1]? = some (y + (a.length : Int)) := by
  obtain ⟨j, rfl⟩ : ∃ j, i = j + 1 := ⟨i - 1, by omega⟩
  rw [lns, List.length_cons] at hi
  have hj : j < (lnsFrom 0 b).length := by omega
  have hle := lnsFrom_le 0 b _ (List.getElem_mem hj)
  rw [Nat.zero_add] at hle
  refine ⟨(lnsFrom 0 b)[j], by rw [lns]; simp [hj], hle.1, hle.2, ?_⟩
  rw [lns_app, show (lns a).length + (j + 1) - 1 = (lns a).length + j from by omega, List.getElem?_append_right (by omega)]
  simp [hj]

theorem w64 (n : Int) (h : -9223372036854775808 ≤ n ∧ n ≤ 9223372036854775807) : wrap64 n = n := by unfold wrap64; omega
theorem own_kk {w : World} {base : Nat} {e : TypeId} {size : Nat} {ao : Option Addr} {k cap n : Nat} {xs : List Value} (h : w.ownsRow base e size (.slice ao k cap) n xs) : k = n := by
  obtain ⟨_, _, e, _⟩ := Rv.of_own h
  cases e; rfl

set_option maxRecDepth 20000 in
set_option maxHeartbeats 4000000 in
theorem law_TextLines (u v : Value) (l m : List Int) (w : World) (hu : Rv w u l.length (l.map (Value.int .i64))) (hv : Rv w v m.length (m.map (Value.int .i64))) (hl : ∀ x ∈ l, -9223372036854775808 ≤ x ∧ x ≤ 9223372036854775807) (hm : ∀ x ∈ m, -9223372036854775808 ≤ x ∧ x ≤ 9223372036854775807) (hF : FM w) :
    Calls Tryd.prog 6 #[u, v] w (RetTB w) := by
  have hw0 : 0 < w.heap.size := World.block_lt_of_cell? w _ (hF 0 (by omega))
  go_enter Tryd.func6, Tryd.ntmps6
  go_wp2_with fail
  refine (text_any u l 30 false w hu hl (by omega)).mono ?_
  rintro e w1 ⟨va, rfl, M1⟩
  have ha30 := textM_len l 30 false
  generalize textM l 30 false = a at *
  have B1 := M1.2
  have RA := M1.rv
  rw [List.length_map] at RA
  go_wp2_with fail
  refine (text_any v m 20 false w1 (hv.below B1) hm (by omega)).mono ?_
  rintro e w2 ⟨vb, rfl, M2⟩
  have hb20 := textM_len m 20 false
  generalize textM m 20 false = b at *
  have B2 := bel B1 M2.2
  have RB := M2.rv
  rw [List.length_map] at RB
  have RA2 := RA.below M2.2
  clear RA M1 M2 B1
  go_wp2_with fail
  refine (lines_any va a w2 RA2 (by omega)).mono ?_
  rintro e w3 ⟨vx, rfl, M3⟩
  have B3 := bel B2 M3.2
  have RX := M3.rv
  rw [List.length_map] at RX
  have RA3 := RA2.below M3.2
  have RB3 := RB.below M3.2
  clear RA2 RB M3 B2
  go_wp2_with fail
  refine (lines_any vb b w3 RB3 (by omega)).mono ?_
  rintro e w4 ⟨vy, rfl, M4⟩
  have B4 := bel B3 M4.2
  have RY := M4.rv
  rw [List.length_map] at RY
  have RX4 := RX.below M4.2
  have RA4 := RA3.below M4.2
  have RB4 := RB3.below M4.2
  clear RA3 RB3 RX M4 B3
  obtain ⟨aa, ca, rfl, hca, hra⟩ := RA4.opened
  obtain ⟨ab, cb, rfl, hcb, hrb⟩ := RB4.opened
  go_wp2_with (first
    | (at_builtin; refine wpList_app _ rfl _ _ rfl Tryd.elI w4.heap.size _ 0 _ rfl (own_empty w4 _) _ a.length _ rfl (RA4.below ((Below.refl _ _).alloc (Nat.le_refl _) _)) (by simp) (ones_I _) (by omega) (by simp) ?_; intro v5 w5 O5 hg5 _; obtain ⟨k5, a5, c5, rfl⟩ := own_shape O5; have hb5 : Below w4.heap.size w4 w5 := ((Below.refl _ w4).alloc (Nat.le_refl _) _).grown hg5 (by simp) (fun g hg => by cases hg; exact Nat.le_refl _))
    | (at_builtin; refine wpList_app _ rfl _ _ rfl Tryd.elI w4.heap.size _ _ _ rfl O5 _ b.length _ rfl (RB4.below hb5) (by simp) (ones_I _) (by omega) hb5.size ?_; intro v6 w6 O6 hg6 _; obtain ⟨k6, a6, c6, rfl⟩ := own_shape O6))
  have b6 : Below w4.heap.size w4 w6 := hb5.grown hg6 hb5.size (fun g hg => (O5.lt g hg).1)
  clear hg5 hg6 O5 hb5
  have R6 : Rv w6 (.slice a6 k6 c6) (a ++ b).length ((a ++ b).map (Value.int .i64)) := by
    have h := Rv.of_own O6
    rw [List.map_append, List.length_append]
    simpa using h
  obtain rfl : k6 = (a ++ b).length := by obtain ⟨_, _, e, _⟩ := R6; cases e; rfl
  have B6 := bel B4 b6
  clear O6
  refine (lines_any _ (a ++ b) w6 R6 (by rw [List.length_append]; omega)).mono ?_
  rintro e w7 ⟨vz, rfl, M7⟩
  have B7 := bel B6 M7.2
  have RZ := M7.rv
  rw [List.length_map] at RZ
  have b7 := bel b6 M7.2
  have RX7 := RX4.below b7
  have RY7 := RY.below b7
  have RA7 := RA4.below b7
  have hF7 := hF.below B7 hw0
  have hlz : (lns (a ++ b)).length + 1 = (lns a).length + (lns b).length := by rw [lns_app]; simp [lns]; omega
  have hlx : (lns a).length ≤ a.length + 1 := by have := lnsFrom_len 0 a; rw [lns, List.length_cons]; omega
  have hly : (lns b).length ≤ b.length + 1 := by have := lnsFrom_len 0 b; rw [lns, List.length_cons]; omega
  have hlx1 : 1 ≤ (lns a).length := by rw [lns, List.length_cons]; omega
  have hly1 : 1 ≤ (lns b).length := by rw [lns, List.length_cons]; omega
  have hx0 : (lns a)[0]? = some 0 := rfl
  have hat := lns_at a
  have hpair := lines_pair a b
  have HA := Lib.hid hat
  have HP := Lib.hid hpair
  clear hat hpair RX4 RY RA4 RB4 hra hrb M7 b6 b7 R6 B6 B4
  have HLZ := Lib.hid hlz
  generalize hX : lns a = X at *
  generalize lns b = Y at *
  generalize lns (a ++ b) = Z at *
  obtain ⟨ax, cx, rfl, hcx, hrx⟩ := RX7.opened
  obtain ⟨ay, cy, rfl, hcy, hry⟩ := RY7.opened
  obtain ⟨az, cz, rfl, hcz, hrz⟩ := RZ.opened
  obtain ⟨gx, ox, rfl, hc0⟩ := hrx.cell (i := 0) (u := .int .i64 0) (by rw [List.getElem?_map, hx0]; rfl)
  have hq1 : ((X.length : Int) == 0) = false := beq_eq_false_iff_ne.2 (by omega)
  have hq2 : ((Y.length : Int) == 0) = false := beq_eq_false_iff_ne.2 (by omega)
  have hq3 : ((Z.length : Int) != (X.length : Int) + (Y.length : Int) - 1) = false := by rw [bne_eq_false_iff_eq]; omega
  clear hlz
  rw [Nat.add_zero] at hc0
  go_wp2_with fail
  go_loopw [10, 11] (fun nv iv wr => ∃ i : Nat, iv = .int .i64 (i : Int) ∧ i ≤ a.length ∧ Hid (nv = .int .i64 ((lns (a.take i)).length : Int)) ∧ wr = w7) (fun _ iv _ => a.length - (intOf iv).toNat)
  case atStart => exact ⟨0, rfl, Nat.zero_le _, rfl, rfl⟩
  case round =>
    obtain ⟨i, rfl, hi, HN, rfl⟩ := hrel
    by_cases hlt : i < a.length
    · obtain ⟨ga, oa, rfl, hca2⟩ := RA7.rd.cell (i := i) (u := .int .i64 a[i]) (by simp [hlt])
      have hsn := lns_snoc a i hlt
      have hat := HA.out i hlt
      have hn := HN.out
      by_cases hc10 : a[i] = 10
      · have h1 := hat hc10
        rw [if_pos hc10] at hsn
        have hln : (lns (a.take (i + 1))).length = (lns (a.take i)).length + 1 := by rw [hsn, List.length_append]; rfl
        obtain ⟨n, hnn⟩ : ∃ n, n = (lns (a.take i)).length := ⟨_, rfl⟩
        rw [← hnn] at hn h1 hln
        subst hn
        have hnx : n < X.length := by
          rcases Nat.lt_or_ge n X.length with h | h
          · exact h
          · rw [List.getElem?_eq_none h] at h1; cases h1
        obtain ⟨g2, o2, he2, hxc⟩ := hrx.cell (i := n) (u := .int .i64 ((i : Int) + 1)) (by rw [List.getElem?_map, h1]; rfl)
        cases he2
        rw [hc10] at hca2
        have HLN := Lib.hid hln
        clear hsn hat h1 hnn hln HN
        go_wp2_with fail
        go_roundw
        case rel => exact ⟨i + 1, by go_num, by omega, (by show _ = _; rw [HLN.out]; go_num), by trivial⟩
        case measure => simp [intOf]; omega
      · rw [if_neg hc10, List.append_nil] at hsn
        have HS := Lib.hid hsn
        have hb : (a[i] == 10) = false := beq_eq_false_iff_ne.2 hc10
        generalize a[i] = c at *
        obtain ⟨n, hnn⟩ : ∃ n, n = (lns (a.take i)).length := ⟨_, rfl⟩
        rw [← hnn] at hn
        have HNN := Lib.hid hnn
        subst hn
        clear hsn hat hc10 HN hnn
        go_wp2_with fail
        go_roundw
        case rel => exact ⟨i + 1, by go_num, by omega, (by show _ = _; rw [HS.out, ← HNN.out]), by trivial⟩
        case measure => simp [intOf]; omega
    · obtain rfl : i = a.length := by omega
      have hn := HN.out
      rw [List.take_length, hX] at hn
      subst hn
      clear HN HA
      go_wp2_with fail
      obtain ⟨W7, hW7⟩ : ∃ W, W = wr := ⟨_, rfl⟩
      have hB0 : Below W7.heap.size W7 wr := by rw [hW7]; exact Below.refl _ _
      rw [← hW7] at B7 hF7 RY7 hry RZ hrz hc0 RX7 hrx
      clear RA7 hW7
      go_loopw [12] (fun iv wr => ∃ i : Nat, iv = .int .i64 (i : Int) ∧ 1 ≤ i ∧ i ≤ Y.length ∧ Below W7.heap.size W7 wr) (fun iv _ => Y.length - (intOf iv).toNat)
      case atStart => exact ⟨1, rfl, by omega, by omega, hB0⟩
      case round =>
        obtain ⟨i, rfl, hi1, hi2, hBr⟩ := hrel
        clear hB0
        by_cases hlt : i < Y.length
        · obtain ⟨y, hy1, hy2, hy3, hz⟩ := HP.out i hi1 hlt
          obtain ⟨g2, o2, rfl, hyc⟩ := (hry.below hBr).cell (i := i) (u := .int .i64 y) (by rw [List.getElem?_map, hy1]; rfl)
          obtain ⟨g3, o3, rfl, hzc⟩ := (hrz.below hBr).cell (i := X.length + i - 1) (u := .int .i64 (y + (a.length : Int))) (by rw [List.getElem?_map, hz]; rfl)
          have hlzn : X.length + i - 1 < Z.length := by have := HLZ.out; omega
          have hw1 : wrap64 ((X.length : Int) + (i : Int) - 1) = ((X.length + i - 1 : Nat) : Int) := by rw [w64 _ (by omega)]; omega
          have hw2 : wrap64 (y + (a.length : Int)) = y + (a.length : Int) := w64 _ (by omega)
          clear hy1 hz
          go_wp2_with fail
          go_quiet (fail)
          go_wp2_with fail
          go_roundw
          case rel => exact ⟨i + 1, by go_num, by omega, by omega, belD hBr _⟩
          case measure => simp [intOf]; omega
        · obtain rfl : i = Y.length := by omega
          have hF8 := hF7.below hBr (hF7.lt)
          have B8 := bel B7 hBr
          clear hF7 B7 HP RY7 hry RZ hrz hc0 RX7 hrx
          go_wp2_with fail
          refine (lives4_any _ hF8).mono ?_
          rintro e w9 ⟨rfl, C9⟩
          go_wp2_with fail
          go_ret
          exact ⟨rfl, bel B8 C9⟩
end Go.Proofs.YtcknnlbfbjcjjaaDoor
