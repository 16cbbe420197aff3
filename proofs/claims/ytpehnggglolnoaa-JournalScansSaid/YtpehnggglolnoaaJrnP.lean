/- The law JournalScans. -/
import Derived.Test.YtpehnggglolnoaaJrnN
import Derived.Deep.RegionWith
namespace Go.Proofs.Ytpehnggglolnoaa
open Go.RowKit

/-- A table of byte slices that lie below it. -/
def TabB (w : World) (g : Nat) (L : List (Value × List UInt8)) : Prop :=
  ∀ i (h : i < L.length), w.cell? ⟨g, i, none⟩ = some L[i].1 ∧ Rv w L[i].1 L[i].2.length (L[i].2.map vB) ∧ Low w.heap.size L[i].1 ∧ L[i].2.length ≤ 10000
theorem TabB.below {w w' : World} {g : Nat} {L : List (Value × List UInt8)} (h : TabB w g L) (hb : Below w.heap.size w w') : TabB w' g L := fun i hi => by
  obtain ⟨h1, h2, h3, h4⟩ := h i hi
  exact ⟨(hb.cell (p := ⟨g, i, none⟩) (World.block_lt_of_cell? w _ h1)).trans h1, h2.below hb, h3.mono hb.size, h4⟩
theorem TabB.new3 {w : World} {u1 u2 u3 : Value} {b1 b2 b3 : List UInt8} (h1 : Rv w u1 b1.length (b1.map vB)) (h2 : Rv w u2 b2.length (b2.map vB)) (h3 : Rv w u3 b3.length (b3.map vB)) (l1 : Low w.heap.size u1) (l2 : Low w.heap.size u2) (l3 : Low w.heap.size u3)
    (n1 : b1.length ≤ 10000) (n2 : b2.length ≤ 10000) (n3 : b3.length ≤ 10000) (t : TypeId) : TabB (w.alloc (.cells #[u1, u2, u3] t)) w.heap.size [(u1, b1), (u2, b2), (u3, b3)] := by
  have hA := (Below.refl _ w).alloc (Nat.le_refl _) (.cells #[u1, u2, u3] t)
  intro i hi
  have : i = 0 ∨ i = 1 ∨ i = 2 := by simp at hi; omega
  rcases this with rfl | rfl | rfl
  · exact ⟨by rw [World.cell?_alloc_new]; rfl, h1.below hA, l1.mono hA.size, n1⟩
  · exact ⟨by rw [World.cell?_alloc_new]; rfl, h2.below hA, l2.mono hA.size, n2⟩
  · exact ⟨by rw [World.cell?_alloc_new]; rfl, h3.below hA, l3.mono hA.size, n3⟩

set_option maxRecDepth 20000 in
set_option maxHeartbeats 2000000 in
theorem law_JournalScans (r u : Value) (rs : List UInt8) (l : List Int) (at' : Int) (c : UInt8) (w : World) (hr : Rv w r rs.length (rs.map vB)) (hu : Rv w u l.length (l.map (Value.int .i64)))
    (hl : ∀ x ∈ l, -9223372036854775808 ≤ x ∧ x ≤ 9223372036854775807) (hn : -9223372036854775808 ≤ at' ∧ at' ≤ 9223372036854775807) :
    Calls Try.prog 5 #[r, u, .int .i64 at', vB c] w (RetT w) := by
  have HX := Lib.hid hl
  have HN := Lib.hid hn
  clear hl hn
  unfold vB
  obtain ⟨ar, cr, er, hcr, _⟩ := hr.opened
  subst er
  have hrm := hr.len
  unfold maxLen at hrm
  go_enter Try.func5, Try.ntmps5
  go_wp2_with fail
  refine (records_any u l _ hu HX.out).mono ?_
  rintro e w1 ⟨v1, us1, rfl, L1, B1⟩
  have hn5 := recM_len l
  have hm5 := recM_mem l
  generalize recM l = X at *
  obtain ⟨k6, a6, c6, rfl⟩ := own_shape L1.own
  obtain rfl : k6 = X.length := own_k L1.own
  have HX2 := Lib.hid hm5
  clear hm5
  go_wp2_with fail
  go_loopw [10, 11] (fun av iv wr => ∃ (i : Nat) (xs : List UInt8), iv = .int .i64 (i : Int) ∧ i ≤ X.length ∧ xs.length ≤ i * 300 ∧ wr.ownsRow w1.heap.size 5 1 av xs.length (xs.map vB) ∧ Below w1.heap.size w1 wr) (fun _ iv _ => X.length - (intOf iv).toNat)
  case atStart => exact ⟨0, [], rfl, Nat.zero_le _, Nat.zero_le _, World.ownsRow_nil _ _ _ _, Below.refl _ _⟩
  case round =>
    obtain ⟨i, xs, rfl, hi, hxl, hown, hB⟩ := hrel
    have hsz := hB.size
    obtain ⟨k7, a7, c7, rfl⟩ := own_shape hown
    obtain rfl : k7 = xs.length := own_k hown
    by_cases hlt : i < X.length
    · obtain ⟨b6, o6, cc, uu, e6, hc6, hr6⟩ := (L1.ls.below hB).at i hlt
      cases e6
      have hxi := HX2.out X[i] (List.getElem_mem hlt)
      generalize X[i] = x at *
      obtain ⟨au, cu, rfl, _, _⟩ := hr6.opened
      have hfl : (frameM (i : Int) x).length ≤ 300 := by
        have := framesM_len i [x] 200 (fun y hy => by rw [List.mem_singleton.1 hy]; omega)
        rw [framesM, framesM, List.append_nil] at this
        simp at this
        omega
      go_wp2_with fail
      refine (rframe_any _ x (i : Int) _ hr6 (by omega) (by omega)).mono ?_
      rintro e w7 ⟨v7, rfl, M7⟩
      have O7 := own_below hown M7.2
      have B7 := bel hB M7.2
      have R7 := M7.rv
      rw [List.length_map] at R7
      generalize frameM (i : Int) x = fr at *
      obtain ⟨a8, c8, rfl, _, _⟩ := R7.opened
      clear M7 hown hc6 hr6 hB
      go_wp2_with (at_builtin; go_loud (refine wpList_app _ rfl _ _ rfl Try.elB w1.heap.size (.slice a7 xs.length c7) xs.length _ rfl O7 (.slice a8 fr.length c8) fr.length _ rfl R7 (by simp) (ones_B _) (by omega) B7.size ?_; intro v9 w9 O9 G9 _))
      go_roundw
      case rel => exact ⟨i + 1, xs ++ fr, by go_num, by omega, by rw [List.length_append]; omega, by rw [List.length_append, List.map_append]; exact O9, B7.grown G9 B7.size (fun g hg => (O7.lt g hg).1)⟩
      case measure => simp [intOf]; omega
    · obtain rfl : i = X.length := by omega
      go_upto_if 36 with fail
      go_cut [] from 34 to 43 (fun wx => ∃ ys : List UInt8, ys.length = xs.length ∧ wx.ownsRow w1.heap.size 5 1 (.slice a7 xs.length c7) xs.length (ys.map vB) ∧ Below w1.heap.size w1 wx)
      case first =>
        by_cases hb0 : 0 < xs.length
        · have hbi : (0 : Int) < (xs.length : Int) := by omega
          go_wp2_with fail
          refine (around_nat at' xs.length (by omega) HN.out.1 HN.out.2 (by omega) _).mono ?_
          rintro e w' ⟨k, hk, _, rfl, rfl⟩
          obtain ⟨g4, cap4, e4, hc4, ⟨x4, hx4⟩, hf4, hst4, hg4⟩ := own_store hown k hk (.int .u8 (c.toNat : Int))
          cases e4
          have hge := (hown.lt g4 rfl).1
          go_wp2_with fail
          go_meet
          refine ⟨xs.set k c, by simp, by rw [List.map_set]; exact hst4, hB.setCell (p := ⟨g4, k, none⟩) hge _⟩
        · have hbi : ¬ (0 : Int) < (xs.length : Int) := by omega
          go_wp2_with fail
          go_meet
          exact ⟨xs, rfl, hown, hB⟩
      case rest =>
      obtain ⟨ys, hyl, OY, BY⟩ := hcut
      have D1 := bel B1 BY
      clear hown hB L1
      have hY := Rv.of_own OY
      have hYl : Low wc.heap.size (.slice a7 xs.length c7) := fun g hg => (OY.lt g hg).2
      rw [← hyl] at hY
      have hYb : ys.length ≤ 10000 := by omega
      have R0 := hr.below D1
      have HT5 : ∀ k', k' = min rs.length 5 → Rv wc (.slice ar k' cr) (rs.take 5).length ((rs.take 5).map vB) := by
        rintro k' rfl
        obtain ⟨a', c', e', _, H5⟩ := R0.firsts (min rs.length 5) (by omega)
        cases e'
        have h := H5 _ rfl
        rw [List.length_take, List.map_take, Nat.min_comm 5]
        have e : min rs.length 5 = min 5 (rs.map vB).length := by rw [List.length_map, Nat.min_comm]
        rw [List.take_eq_take_min, ← e]
        exact h
      have hfl : (frameM 1 (rs.take 5)).length ≤ 300 := by
        have := framesM_len 1 [rs.take 5] 200 (fun y hy => by rw [List.mem_singleton.1 hy, List.length_take]; omega)
        rw [framesM, framesM, List.append_nil] at this
        simp at this
        exact Nat.le_trans this (by omega)
      have hfr := fun v w1 h => rframe_any v (rs.take 5) 1 w1 h (by rw [List.length_take]; omega) (by omega)
      generalize frameM 1 (rs.take 5) = fr at *
      have HFR := Lib.hid hfr
      have HT := Lib.hid HT5
      have hYd : Rv wc.drew (.slice a7 xs.length c7) ys.length (ys.map vB) := by rw [← hyl] at *; exact hY
      have hlowd : Low wc.drew.heap.size (.slice a7 xs.length c7) := hYl
      have D1d : Below w.heap.size w wc.drew := D1.drew
      have R0d : Rv wc.drew (.slice ar rs.length cr) rs.length (rs.map vB) := R0
      have hTd : ∀ k', k' = min rs.length 5 → Rv wc.drew (.slice ar k' cr) (rs.take 5).length ((rs.take 5).map vB) := HT5
      have HTD := Lib.hid hTd
      clear OY BY hfr HT5 hTd hY hYl R0 HT D1
      go_upto_region 9 with fail
      go_cut [12] from 44 to 53 (fun lv wx => ∃ (g : Nat) (L : List (Value × List UInt8)), lv = .slice (some ⟨g, 0, none⟩) 3 3 ∧ L.length = 3 ∧ TabB wx g L ∧ Below w.heap.size w wx)
      case first =>
        have hfin : ∀ (v6 v7 : Value) (q : List UInt8) (w1 w2 : World), q.length ≤ 60 → Made wc.drew w1 5 v6 (q.map vB) → Made w1 w2 5 v7 (fr.map vB) →
            ∃ (g : Nat) (L : List (Value × List UInt8)), Value.slice (some ⟨w2.heap.size, 0, none⟩) 3 3 = .slice (some ⟨g, 0, none⟩) 3 3 ∧ L.length = 3 ∧ TabB (w2.alloc (.cells #[v6, .slice a7 xs.length c7, v7] 49)) g L ∧ Below w.heap.size w (w2.alloc (.cells #[v6, .slice a7 xs.length c7, v7] 49)) := by
          intro v6 v7 q w1 w2 hq M6 M7
          have D := bel (bel D1d M6.2) M7.2
          have R6 := M6.rv.below M7.2
          have R7 := M7.rv
          rw [List.length_map] at R6 R7
          exact ⟨_, _, rfl, rfl, TabB.new3 (b1 := q) (b2 := ys) (b3 := fr) R6 ((hYd.below M6.2).below M7.2) R7 (M6.low.mono M7.2.size) ((hlowd.mono M6.2.size).mono M7.2.size) M7.low (by omega) hYb (by omega) _, D.alloc D.size _⟩
        have hfin2 : ∀ (v6 v7 : Value) (q : List UInt8) (w1 w2 : World), q.length ≤ 60 → Made wc.drew w1 5 v7 (fr.map vB) → Made w1 w2 5 v6 (q.map vB) →
            ∃ (g : Nat) (L : List (Value × List UInt8)), Value.slice (some ⟨w2.heap.size, 0, none⟩) 3 3 = .slice (some ⟨g, 0, none⟩) 3 3 ∧ L.length = 3 ∧ TabB (w2.alloc (.cells #[v6, .slice a7 xs.length c7, v7] 49)) g L ∧ Below w.heap.size w (w2.alloc (.cells #[v6, .slice a7 xs.length c7, v7] 49)) := by
          intro v6 v7 q w1 w2 hq M7 M6
          have D := bel (bel D1d M7.2) M6.2
          have R7 := M7.rv.below M6.2
          have R6 := M6.rv
          rw [List.length_map] at R6 R7
          exact ⟨_, _, rfl, rfl, TabB.new3 (b1 := q) (b2 := ys) (b3 := fr) R6 ((hYd.below M7.2).below M6.2) R7 M6.low ((hlowd.mono M7.2.size).mono M6.2.size) (M7.low.mono M6.2.size) (by omega) hYb (by omega) _, D.alloc D.size _⟩
        have HFIN := Lib.hid hfin
        have HFIN2 := Lib.hid hfin2
        clear hfin hfin2
        by_cases h5 : rs.length ≤ 5
        · have h5i : (rs.length : Int) ≤ 5 := by omega
          go_region_with (first
            | (go_at_call 24; refine (few_some (.slice ar rs.length cr) rs 60 (by omega) _ (by first | exact R0d | exact R0d.below M7.2)).mono ?_; rintro e w6 ⟨v6, q, _, hq, rfl, M6, R6⟩; obtain ⟨a61, c61, e61, _, _⟩ := R6.opened; subst e61)
            | (go_at_call 27; refine (HFR.out _ _ (by first | exact HTD.out _ (by omega) | exact (HTD.out _ (by omega)).below M6.2)).mono ?_; rintro e w7 ⟨v7, rfl, M7⟩; have R7 := M7.rv; rw [List.length_map] at R7; obtain ⟨a71, c71, e71, _, _⟩ := R7.opened; subst e71))
          all_goals
            go_wp2_with fail
            go_meet
            first
            | exact HFIN.out _ _ q _ _ hq M6 M7
            | exact HFIN2.out _ _ q _ _ hq M7 M6
        · have h5i : ¬ (rs.length : Int) ≤ 5 := by omega
          have h5j : (5 : Int) < (rs.length : Int) := by omega
          have h5k : (5 : Int) ≤ (cr : Int) := by omega
          go_region_with (first
            | (go_at_call 24; refine (few_some (.slice ar rs.length cr) rs 60 (by omega) _ (by first | exact R0d | exact R0d.below M7.2)).mono ?_; rintro e w6 ⟨v6, q, _, hq, rfl, M6, R6⟩; obtain ⟨a61, c61, e61, _, _⟩ := R6.opened; subst e61)
            | (go_at_call 27; refine (HFR.out _ _ (by first | exact HTD.out _ (by omega) | exact (HTD.out _ (by omega)).below M6.2)).mono ?_; rintro e w7 ⟨v7, rfl, M7⟩; have R7 := M7.rv; rw [List.length_map] at R7; obtain ⟨a71, c71, e71, _, _⟩ := R7.opened; subst e71))
          all_goals
            go_wp2_with fail
            go_meet
            first
            | exact HFIN.out _ _ q _ _ hq M6 M7
            | exact HFIN2.out _ _ q _ _ hq M7 M6
      case rest =>
      obtain ⟨g, L, rfl, hL3, hT, D2⟩ := hcut
      clear hYd hlowd D1d R0d HTD HFR
      rename World => w4
      go_wp2_with fail
      go_loopw [13] (fun iv wr => ∃ i : Nat, iv = .int .i64 (i : Int) ∧ i ≤ 3 ∧ Below w4.heap.size w4 wr) (fun iv _ => 3 - (intOf iv).toNat)
      case atStart => exact ⟨0, rfl, by omega, Below.refl _ _⟩
      case round =>
        obtain ⟨i, rfl, hi3, hB⟩ := hrel
        by_cases hlt3 : i < 3
        · obtain ⟨hc1, hr1, hlow1, hle1⟩ := (hT.below hB) i (by omega)
          generalize L[i] = p at *
          obtain ⟨pv, pb⟩ := p
          simp only at hc1 hr1 hlow1 hle1
          obtain ⟨ap, cp, rfl, _, _⟩ := hr1.opened
          have hs1 := fun w1 h => scan_any (.slice ap pb.length cp) pb w1 h (by omega)
          have hs2 := fun w1 h h2 => rscan_any (.slice ap pb.length cp) pb w1 h h2 (by omega)
          unfold ScanPost at hs1 hs2
          generalize scanL pb = q at *
          obtain ⟨G, K⟩ := q
          have HS1 := Lib.hid hs1
          have HS2 := Lib.hid hs2
          clear hs1 hs2
          go_wp2_with fail
          refine (HS1.out _ hr1).mono ?_
          rintro e w10 ⟨v10, us10, rfl, L10, C10⟩
          have hc10 := (C10.cell (p := ⟨g, i, none⟩) (World.block_lt_of_cell? _ _ hc1)).trans hc1
          have hr10 := hr1.below C10
          have hlow10 := hlow1.mono C10.size
          have B10 := bel hB C10
          obtain ⟨k10, a10, c10, rfl⟩ := own_shape L10.own
          obtain rfl : k10 = G.length := own_k L10.own
          clear hc1 hr1 hlow1 hB C10 HS1
          go_wp2_with fail
          refine (HS2.out _ hr10 hlow10).mono ?_
          rintro e w11 ⟨v11, us11, rfl, L11, C11⟩
          have L10b := (L10.below C11).ls
          have L11b := L11.ls
          have B11 := bel B10 C11
          obtain ⟨k11, a11, c11, rfl⟩ := own_shape L11.own
          obtain rfl : k11 = G.length := own_k L11.own
          clear hc10 hr10 hlow10 B10 C11 HS2 L10 L11
          go_wp2_with fail
          refine (sameLists_refl _ _ G _ L10b L11b).mono ?_
          rintro e w12 ⟨rfl, n12, h12⟩
          have B12 : Below w4.heap.size w4 w12 := by rw [h12]; exact belD B11 n12
          clear h12 B11 L10b L11b
          go_wp2_with fail
          go_roundw
          case rel => exact ⟨i + 1, by go_num, by omega, B12⟩
          case measure => simp [intOf]; omega
        · obtain rfl : i = 3 := by omega
          have D3 := bel D2 hB
          go_wp2_with fail
          refine (lives31_any _).mono ?_
          rintro e w9 ⟨rfl, C9⟩
          go_wp2_with fail
          go_ret
          exact ⟨rfl, bel D3 C9⟩
end Go.Proofs.Ytpehnggglolnoaa
