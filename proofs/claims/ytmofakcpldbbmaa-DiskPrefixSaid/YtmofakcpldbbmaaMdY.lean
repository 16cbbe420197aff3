/- The law DiskPrefix: the walk. -/
import Derived.Test.YtmofakcpldbbmaaMdX
namespace Go.Proofs.Ytmofakcpldbbmaa
open Go.RowKit

theorem bits_succ_no {spot : Option Nat} {i : Nat} (h : spot ≠ some i) : bitsTo spot (i + 1) = bitsTo spot i := by
  cases spot with
  | none => rfl
  | some q =>
    have hq : q ≠ i := fun e => h (by rw [e])
    show (if q < i + 1 then 1 else 0) = if q < i then 1 else 0
    by_cases e : q < i
    · rw [if_pos e, if_pos (by omega)]
    · rw [if_neg e, if_neg (by omega)]
theorem bits_succ_yes {spot : Option Nat} {i : Nat} (h : spot = some i) : bitsTo spot (i + 1) = 1 ∧ bitsTo spot i = 0 := by
  subst h
  exact ⟨if_pos (Nat.lt_succ_self i), if_neg (Nat.lt_irrefl i)⟩
theorem bits_le (spot : Option Nat) (i : Nat) : bitsTo spot i ≤ 1 := by
  cases spot with
  | none => exact Nat.zero_le _
  | some q =>
    show (if q < i then 1 else 0) ≤ 1
    split <;> omega
set_option linter.unusedSimpArgs false in
set_option maxRecDepth 20000 in
set_option maxHeartbeats 4000000 in
theorem law_DiskPrefix (v : Value) (L : List (List UInt8)) (sy keep flip : Int) (w : World) (hv : LsR w v L) (hs : -9223372036854775808 ≤ sy ∧ sy ≤ 9223372036854775807) (hk : -9223372036854775808 ≤ keep ∧ keep ≤ 9223372036854775807) (hf : flip ≤ 9223372036854775807) :
    Calls Try.prog 3 #[v, .int .i64 sy, .int .i64 keep, .int .i64 flip] w fun e w' => e = .returned (.bool true) ∧ Below w.heap.size w w' := by
  obtain ⟨av, cv, rfl⟩ : ∃ a c, v = .slice a L.length c := by obtain ⟨_, ⟨a, c, h, _⟩, _⟩ := hv; exact ⟨a, c, h⟩
  have HS := Bx.mk hs
  have HK := Bx.mk hk
  clear hs hk
  go_enter Try.func3, Try.ntmps3
  go_wp2_with fail
  refine (dnew w 1000 (by decide) (by decide)).mono ?_
  rintro e w1 ⟨p, X, rfl, D1, hX, B1⟩
  go_wp2_with fail
  refine (around_nat sy 6 (by omega) HS.out.1 HS.out.2 (by omega) _).mono ?_
  rintro e w2 ⟨at', ha6, _, rfl, rfl⟩
  have P0 : PreSt (newD 1000) [] 0 := ⟨rfl, rfl, fun _ _ => rfl, rfl, rfl, rfl, Nat.le_refl _⟩
  have HP0 := Bx.mk P0
  clear P0
  have hX1 := D1.xl
  go_upto_block 0 with fail
  go_cut [11, 12] from 34 to 61 (fun u v wx => ∃ (E : Dk) (X : Nat → Prop) (all : List UInt8) (firm : Nat), v = .int .i64 (firm : Int) ∧ all.length ≤ 120 ∧ DAt wx p X E ∧ Bx (PreSt E all firm) ∧ wx.ownsRow w.heap.size 5 1 u all.length (all.map vB) ∧ Off u X ∧ (∀ b, X b → w.heap.size ≤ b) ∧ Below w.heap.size w wx)
  case first =>
    go_wp2_with fail
    go_loopw [11, 12, 14] (fun u f iv W => ∃ (i firm : Nat) (E : Dk) (X : Nat → Prop) (all : List UInt8), iv = .int .i64 (i : Int) ∧ f = .int .i64 (firm : Int) ∧ i ≤ L.length ∧ i ≤ 6 ∧ all.length ≤ 20 * i ∧ DAt W p X E ∧ Bx (PreSt E all firm) ∧ W.ownsRow w.heap.size 5 1 u all.length (all.map vB) ∧ Off u X ∧ (∀ b, X b → w.heap.size ≤ b) ∧ Below w.heap.size w W) (fun _ _ iv _ => 6 - (intOf iv).toNat)
    case atStart => exact ⟨0, 0, _, X, [], rfl, rfl, Nat.zero_le _, Nat.zero_le _, Nat.le_refl _, D1, HP0, World.ownsRow_nil _ _ _ _, (fun b hb => by cases hb), hX, B1⟩
    case round =>
      clear D1 HP0 hX B1
      rename World => W
      obtain ⟨i, firm, E, X, all, rfl, rfl, hil, hi6, hal, D, HP, O, oX, lX, B⟩ := hrel
      by_cases hlt : i < L.length
      · by_cases hl6 : i < 6
        · obtain ⟨b2, off2, c2, ub, e, hcx, hRb⟩ := (hv.below B).at i hlt
          injection e with e1 e2 e3
          subst e1 e3
          clear e2
          obtain ⟨x, hx⟩ : ∃ x, L[i] = x := ⟨_, rfl⟩
          rw [hx] at hRb
          obtain ⟨ax, cx, rfl, _, _⟩ := hRb.opened
          have hwW := B.size
          clear hx
          go_wp2_with fail
          refine (few_any _ x 20 (by decide) W hRb).mono ?_
          rintro e w3 ⟨v3, rfl, M3⟩
          obtain ⟨b, hb⟩ : ∃ l, x.take 20 = l := ⟨_, rfl⟩
          rw [hb] at M3
          have hbl : b.length ≤ 20 := by rw [← hb, List.length_take]; omega
          have O3 := M3.1
          rw [List.length_map] at O3
          have D3 := D.later M3.2
          have A3 := own_below O M3.2
          have B3 := bel B M3.2
          have o3 : Off v3 X := Off.ge O3 D.xl
          have HP3 := HP.out.append b (by omega)
          have HA := Bx.mk HP3
          obtain ⟨a3, c3, rfl⟩ := own_isSlice O3
          obtain ⟨nb, hnb⟩ : ∃ n, b.length = n := ⟨_, rfl⟩
          have HNB := Bx.mk hnb
          rw [hnb] at O3 o3 hbl ⊢
          clear M3 hb D O B HP3 hnb hcx hRb
          go_wp2_with fail
          refine (dappend w3 9 _ b D3 (by rw [HNB.out]; exact Rv.of_own O3) o3 (by rw [HNB.out]; omega)).mono ?_
          rintro e w4 ⟨rfl, X4, D4, S4⟩
          have O4 := own_step O3 S4 o3
          have A4 := own_step A3 S4 oX
          have o4 := oX.step S4 A3
          have B4 := B3.trans (S4.toBelow B3.size lX)
          have l4 := S4.ge B3.size lX
          have x4 := D4.xl
          obtain ⟨F, hF⟩ : ∃ F, (E.append 9 b).2 = F := ⟨_, rfl⟩
          have hA := HA.out.2
          rw [hF] at D4 hA
          have HP4 := Bx.mk hA
          generalize (E.append 9 b).1 = r4
          clear D3 A3 B3 S4 HA hA hF O3 o3
          obtain ⟨na, hna⟩ : ∃ n, all.length = n := ⟨_, rfl⟩
          have HNA := Bx.mk hna
          obtain ⟨aa, ca, eaa⟩ := own_isSlice A4
          subst eaa
          rw [hna] at A4 o4 hal ⊢
          clear hna
          go_wp2_with (at_builtin; go_loud (refine wpList_app2 _ rfl _ _ rfl Try.elB w.heap.size _ na _ rfl A4 _ nb _ rfl (Rv.of_own O4) (by rw [List.length_map, HNB.out]; simp) (ones_B _) (by omega) (by have := B4.size; omega) ?_; intro v5 w5 O5 g5 s5; refine later ?_))
          refine Later.in ?_
          rw [← List.map_append] at O5
          have B5 := B4.grown g5 B4.size (fun g hg => (A4.lt g hg).1)
          have D5 : DAt w5 p X4 F := by
            obtain ⟨mb, F', ks, h⟩ := D4
            exact ⟨mb, F', ks, h.kept g5.size (fun y hy => g5.block y (h.xl y hy) (fun e => o4 y e.symm hy))⟩
          have o5 : Off v5 X4 := fun y hy hx => by
            rcases s5 with s | s
            · rw [s] at hy; exact o4 y hy hx
            · have h1 := s y hy
              have h2 := x4 y hx
              omega
          have hl5 : na + nb ≤ 20 * (i + 1) := by omega
          have hlz : (all ++ b).length = na + nb := by rw [List.length_append, HNA.out, HNB.out]
          obtain ⟨z, hz⟩ : ∃ z, all ++ b = z := ⟨_, rfl⟩
          rw [hz] at O5 HP4 hlz
          obtain ⟨nz, hnz⟩ : ∃ n, na + nb = n := ⟨_, rfl⟩
          rw [hnz] at O5 hl5 hlz
          obtain ⟨a5, c5, rfl⟩ := own_isSlice O5
          have HLZ := Bx.mk hlz
          clear g5 s5 hz hnz hlz D4 A4 o4 B4 O4 x4
          by_cases hat : i = at'
          · have hati : ((i : Int) == (at' : Int)) = true := by subst hat; simp
            have HSY := Bx.mk HP4.out.sync
            clear hat
            go_wp2_with fail
            refine (dsync w5 D5).mono ?_
            rintro e w6 ⟨rfl, D6, S6⟩
            have O6 := own_step O5 S6 o5
            have B6 := B5.trans (S6.toBelow B5.size l4)
            generalize F.sync.1 = r6
            have hsy := HSY.out
            obtain ⟨F6, hF6⟩ : ∃ F6, F.sync.2 = F6 := ⟨_, rfl⟩
            rw [hF6] at D6 hsy
            have HP6 := Bx.mk hsy
            rw [HLZ.out] at HP6
            clear D5 O5 B5 S6 HSY hsy hF6
            go_wp2_with fail
            go_roundw
            case rel => exact ⟨i + 1, nz, F6, X4, z, by simp, by simp, hlt, hl6, by rw [HLZ.out]; exact hl5, D6, HP6, by rw [HLZ.out]; exact O6, o5, l4, B6⟩
            case measure => simp [intOf]; omega
          · have hati : ((i : Int) == (at' : Int)) = false := beq_eq_false_iff_ne.2 (fun e => hat (by omega))
            clear hat
            go_wp2_with fail
            go_roundw
            case rel => exact ⟨i + 1, firm, F, X4, z, by simp, rfl, hlt, hl6, by rw [HLZ.out]; exact hl5, D5, HP4, by rw [HLZ.out]; exact O5, o5, l4, B5⟩
            case measure => simp [intOf]; omega
        · go_wp2_with fail
          go_meet
          exact ⟨E, X, all, firm, rfl, by omega, D, HP, O, oX, lX, B⟩
      · go_wp2_with fail
        go_meet
        exact ⟨E, X, all, firm, rfl, by omega, D, HP, O, oX, lX, B⟩
  case rest =>
  clear D1 HP0 hX B1 hX1
  rename World => w3
  obtain ⟨E, X, all, firm, rfl, hal, D3, HP, O3, oX, lX, B3⟩ := hcut
  obtain ⟨t, ht⟩ : ∃ t, keptN [keep] 0 (all.length - firm) = t := ⟨_, rfl⟩
  obtain ⟨x, spot, hx1, hx2, hx3, hx4, hx5, hx6⟩ := pre_read D3.ok HP.out keep flip ht
  have hfl := HP.out.le
  have htm : t = min keep.toNat (all.length - firm) := ht.symm
  have hco : (E.crash [keep] flip).off = false := rfl
  obtain ⟨G, hG⟩ : ∃ G, E.crash [keep] flip = G := ⟨_, rfl⟩
  rw [hG] at hx1 hco
  have hrd := read_on G 9 (by decide) hco
  rw [hx1] at hrd
  have HG := Bx.mk hG
  have HRD := Bx.mk hrd
  have HX4 := Bx.mk hx4
  have HX5 := Bx.mk hx5
  have HX6 := Bx.mk hx6
  have hw3 := B3.size
  obtain ⟨aa, ca, rfl⟩ := own_isSlice O3
  obtain ⟨na, hna⟩ : ∃ n, all.length = n := ⟨_, rfl⟩
  rw [hna] at hal O3 oX hx3 hfl htm ⊢
  obtain ⟨n, hn⟩ : ∃ n, firm + t = n := ⟨_, rfl⟩
  rw [hn] at hx2 hx3 HX4 HX6
  have HN := Bx.mk hn
  have HX2 := Bx.mk hx2
  have HNA := Bx.mk hna
  have hsub : IntKind.i64.wrap ((na : Int) - (firm : Int)) = (na : Int) - (firm : Int) := by rw [IntKind.wrap_i64]; omega
  have hmx : max (0 : Int) (min keep ((na : Int) - (firm : Int))) = (t : Int) := by rw [htm]; omega
  have hft : (firm : Int) + (t : Int) = (n : Int) := by omega
  have hfn : firm ≤ n := by omega
  have hn120 : n ≤ 120 := by omega
  clear ht hx1 hx2 hx4 hx5 hx6 hco hG hrd hna htm
  go_wp2_with fail
  have BA := (Below.refl w3.heap.size w3).alloc (Nat.le_refl _) (.cells #[.int .i64 keep] 3)
  refine (dcrash _ [keep] _ flip hf (fun y hy => by rw [List.mem_singleton.1 hy]; exact HK.out.2) (D3.later BA) (Rv.lit w3 [.int .i64 keep] 3 1 (by decide)) (off_new D3.xl 1 1)).mono ?_
  rw [HG.out]
  rintro e w4 ⟨rfl, D4, S4⟩
  have O4 := own_step (own_below O3 BA) S4 oX
  have B4 := B3.trans ((BA.mono hw3).trans (S4.toBelow (by rw [World.size_alloc]; omega) lX))
  clear D3 B3 BA S4 O3
  go_wp2_with fail
  refine (dread w4 9 D4).mono ?_
  rw [HRD.out]
  rintro e w5 ⟨v5, rfl, O5, B5⟩
  replace O5 : w5.ownsRow w4.heap.size 5 1 v5 x.length (x.map vB) := O5
  rw [HX2.out] at O5
  obtain ⟨a5, c5, rfl⟩ := own_isSlice O5
  have P5 := own_below O4 B5
  have B5' := bel B4 B5
  clear D4 O4 B4 B5
  have hw5 := B5'.size
  clear hsub
  go_wp2_with fail
  go_loopw [19, 20] (fun tv iv W => ∃ i : Nat, iv = .int .i64 (i : Int) ∧ tv = .int .i64 (bitsTo spot i : Int) ∧ i ≤ n ∧ W.ownsRow w4.heap.size 5 1 (.slice a5 n c5) n (x.map vB) ∧ W.ownsRow w.heap.size 5 1 (.slice aa na ca) na (all.map vB) ∧ Below w.heap.size w W) (fun _ iv _ => n - (intOf iv).toNat)
  case atStart => exact ⟨0, rfl, by
    have : bitsTo spot 0 = 0 := by
      cases spot with
      | none => rfl
      | some q =>
        show (if q < 0 then 1 else 0) = 0
        exact if_neg (by omega)
    rw [this]; rfl, Nat.zero_le _, O5, P5, B5'⟩
  case round =>
    clear O5 P5 B5' hw5
    rename World => W
    obtain ⟨i, rfl, rfl, hi, O5, P5, B5⟩ := hrel
    by_cases hlt : i < n
    · have hlti : (i : Int) < (n : Int) := by omega
      have hlta : (i : Int) < (na : Int) := by omega
      obtain ⟨xa, xb, hxa, hxb, hcase⟩ := HX4.out i hlt
      obtain ⟨g1, o1, h1, hc1, _⟩ := own_at O5 hxa
      subst h1
      obtain ⟨g2, o2, h2, hc2, _⟩ := own_at P5 hxb
      subst h2
      unfold vB at hc1 hc2
      have hxor := xor_u8 xa xb
      obtain ⟨y, hy⟩ : ∃ y, xa ^^^ xb = y := ⟨_, rfl⟩
      rw [hy] at hxor hcase
      have hxor2 := hxor
      clear hxor hy
      obtain ⟨T, hT⟩ : ∃ T, bitsTo spot i = T := ⟨_, rfl⟩
      obtain ⟨T2, hT2⟩ : ∃ T, bitsTo spot (i + 1) = T := ⟨_, rfl⟩
      have hpow : (y.toNat = 0 ∧ T2 = T) ∨ ∃ e, e < 8 ∧ y.toNat = 2 ^ e ∧ T2 = T + 1 := by
        rcases hcase with ⟨h1, h2⟩ | ⟨h1, e, h2, h3⟩
        · exact .inl ⟨by rw [h2]; rfl, by rw [← hT, ← hT2, bits_succ_no h1]⟩
        · obtain ⟨h4, h5⟩ := bits_succ_yes h1
          exact .inr ⟨e, h2, h3, by rw [← hT, ← hT2, h4, h5]⟩
      have HT2 := Bx.mk hT2
      have hT1 : T2 ≤ 1 := by rw [← hT2]; exact bits_le _ _
      have hT0 : T ≤ 1 := by rw [← hT]; exact bits_le _ _
      rw [hT]
      obtain ⟨yn, hyn⟩ : ∃ n, y.toNat = n := ⟨_, rfl⟩
      rw [hyn] at hxor2 hpow
      clear hcase hT hT2 hxa hxb hyn
      have HO5 := Bx.mk O5
      have HP5 := Bx.mk P5
      clear O5 P5
      go_upto_region 25 with fail
      go_quiet (fail)
      have B6 := belD B5 nq
      have O6 := own_below HO5.out (belD (Below.refl W.heap.size W) nq)
      have P6 := own_below HP5.out (belD (Below.refl W.heap.size W) nq)
      generalize W.drewN nq = W6 at O6 P6 B6 ⊢
      have HO6 := Bx.mk O6
      have HP6 := Bx.mk P6
      clear O6 P6 HO5 HP5 hc1 hc2 B5
      have hyn8 : yn ≤ 128 := by
        rcases hpow with ⟨h, _⟩ | ⟨e, h1, h2, _⟩
        · omega
        · have h8 : e = 0 ∨ e = 1 ∨ e = 2 ∨ e = 3 ∨ e = 4 ∨ e = 5 ∨ e = 6 ∨ e = 7 := by omega
          rcases h8 with h | h | h | h | h | h | h | h <;> subst h <;> omega
      clear hxor2
      have HPOW : Bx ((yn = 0 ∧ T2 = T) ∨ ∃ e, e < 8 ∧ yn = 2 ^ e ∧ T2 = T + 1) := ⟨hpow⟩
      clear hpow
      go_wp2_with fail
      go_loop [19, 21] (fun tv kv => ∃ (k T' : Nat), kv = .int .u8 (k : Int) ∧ tv = .int .i64 (T' : Int) ∧ k ≤ 128 ∧ T' ≤ 1 ∧ Bx ((k = 0 ∧ T2 = T') ∨ ∃ e, e < 8 ∧ k = 2 ^ e ∧ T2 = T' + 1)) (fun _ kv => (match kv with | .int _ k => k.toNat | _ => 0))
      case atStart => exact ⟨yn, T, rfl, rfl, hyn8, hT0, HPOW⟩
      case round =>
        clear HPOW hyn8
        obtain ⟨k, T', rfl, rfl, hk8, hT', HPOW⟩ := hrel
        by_cases hk0 : 0 < k
        · have hk0i : (0 : Int) < (k : Int) := by omega
          have hnext : (k / 2 = 0 ∧ T2 = T' + k % 2) ∨ ∃ e, e < 8 ∧ k / 2 = 2 ^ e ∧ T2 = (T' + k % 2) + 1 := by
            rcases HPOW.out with ⟨h, _⟩ | ⟨e, h1, h2, h3⟩
            · omega
            · have h8 : e = 0 ∨ e = 1 ∨ e = 2 ∨ e = 3 ∨ e = 4 ∨ e = 5 ∨ e = 6 ∨ e = 7 := by omega
              rcases h8 with h | h | h | h | h | h | h | h <;> subst h
              · exact .inl ⟨by omega, by omega⟩
              · exact .inr ⟨0, by omega, by omega, by omega⟩
              · exact .inr ⟨1, by omega, by omega, by omega⟩
              · exact .inr ⟨2, by omega, by omega, by omega⟩
              · exact .inr ⟨3, by omega, by omega, by omega⟩
              · exact .inr ⟨4, by omega, by omega, by omega⟩
              · exact .inr ⟨5, by omega, by omega, by omega⟩
              · exact .inr ⟨6, by omega, by omega, by omega⟩
          have hT3 : T' + k % 2 ≤ 1 := by
            rcases hnext with ⟨_, h⟩ | ⟨_, _, _, h⟩ <;> omega
          have HNX := Bx.mk hnext
          clear hnext
          go_wp2_with fail
          go_round
          case rel => exact ⟨k / 2, T' + k % 2, by simp, by simp, by omega, hT3, HNX⟩
          case measure => show ((k : Int) / 2).toNat < ((k : Int)).toNat; omega
        · obtain rfl : k = 0 := by omega
          have hTT : T2 = T' := by
            rcases HPOW.out with ⟨_, h⟩ | ⟨e, h1, h2, h3⟩
            · exact h
            · have h8 : e = 0 ∨ e = 1 ∨ e = 2 ∨ e = 3 ∨ e = 4 ∨ e = 5 ∨ e = 6 ∨ e = 7 := by omega
              rcases h8 with h | h | h | h | h | h | h | h <;> subst h <;> omega
          subst hTT
          clear HPOW
          have HR := Bx.mk (And.intro HT2.out (And.intro HO6.out (And.intro HP6.out B6)))
          clear HO6 HP6 B6 HT2
          go_wp2_with fail
          go_roundw
          case rel => exact ⟨i + 1, by simp, by rw [HR.out.1], hlt, HR.out.2.1, HR.out.2.2.1, HR.out.2.2.2⟩
          case measure => simp [intOf]; omega
    · obtain rfl : n = i := by omega
      have hx6 := HX6.out
      by_cases hfl0 : 0 ≤ flip ∧ 0 < t
      · rw [if_pos hfl0] at hx6
        obtain ⟨q, rfl, hq⟩ := hx6
        have hb1 : bitsTo (some q) n = 1 := if_pos hq
        rw [hb1]
        have hf0 : (0 : Int) ≤ flip := hfl0.1
        have hnf : (firm : Int) < (n : Int) := by have := HN.out; omega
        have hcx : n ≤ c5 := by
          obtain ⟨_, _, e, h, _⟩ := (Rv.of_own O5).opened
          cases e
          exact h
        have hca : na ≤ ca := by
          obtain ⟨_, _, e, h, _⟩ := (Rv.of_own P5).opened
          cases e
          exact h
        have hfc5 : (firm : Int) ≤ (c5 : Int) := by omega
        have hfca : (firm : Int) ≤ (ca : Int) := by omega
        have R5 := rv_cut2 (Rv.of_own O5) firm (by omega)
        rw [HX5.out] at R5
        have R6 := rv_cut2 (Rv.of_own P5) firm (by omega)
        have hlen : (all.take firm).length = firm := by rw [List.length_take, HNA.out]; omega
        have HR5 := Bx.mk R5
        have HR6 := Bx.mk R6
        have HLEN := Bx.mk hlen
        have hB := B5
        clear hfl0 hb1 hq HX6 R5 R6 hlen O5 P5
        go_upto_region 30 with fail
        refine wp_region_held_drew (S := fun _ => True) (by kernel_rfl) trivial (fun _ => ?_)
        refine wpAnyH_do 0 119 rfl rfl (by kernel_rfl) (by kernel_rfl) (by kernel_rfl) (fun _ _ _ _ _ h => h) (by kernel_rfl) (fun W hS => by (obtain _ := hS); go_simp; try with_reducible rfl) trivial ?_
        simp only [List.setIfInBounds_toArray, List.set_cons_succ, List.set_cons_zero]
        refine wpAnyH_do 1 120 rfl rfl (by kernel_rfl) (by kernel_rfl) (by kernel_rfl) (fun _ _ _ _ _ h => h) (by kernel_rfl) (fun W hS => by (obtain _ := hS); go_simp; try with_reducible rfl) trivial ?_
        simp only [List.setIfInBounds_toArray, List.set_cons_succ, List.set_cons_zero]
        refine wpAnyH_do 2 121 rfl rfl (by kernel_rfl) (by kernel_rfl) (by kernel_rfl) (fun _ _ _ _ _ h => h) (by kernel_rfl) (fun W hS => by (obtain _ := hS); go_simp; try with_reducible rfl) trivial ?_
        simp only [List.setIfInBounds_toArray, List.set_cons_succ, List.set_cons_zero]
        refine wpAnyH_do 3 122 rfl rfl (by kernel_rfl) (by kernel_rfl) (by kernel_rfl) (fun _ _ _ _ _ h => h) (by kernel_rfl) (fun W hS => by (obtain _ := hS); go_simp; try with_reducible rfl) trivial ?_
        simp only [List.setIfInBounds_toArray, List.set_cons_succ, List.set_cons_zero]
        refine wpAnyH_do 4 123 rfl rfl (by kernel_rfl) (by kernel_rfl) (by kernel_rfl) (fun _ _ _ _ _ h => h) (by kernel_rfl) (fun W hS => by (obtain _ := hS); go_simp; try with_reducible rfl) trivial ?_
        simp only [List.setIfInBounds_toArray, List.set_cons_succ, List.set_cons_zero]
        refine wpAnyH_do 5 124 rfl rfl (by kernel_rfl) (by kernel_rfl) (by kernel_rfl) (fun _ _ _ _ _ h => h) (by kernel_rfl) (fun W hS => by (obtain _ := hS); go_simp; try with_reducible rfl) trivial ?_
        simp only [List.setIfInBounds_toArray, List.set_cons_succ, List.set_cons_zero]
        refine wpAnyH_do 6 125 rfl rfl (by kernel_rfl) (by kernel_rfl) (by kernel_rfl) (fun _ _ _ _ _ h => h) (by kernel_rfl) (fun W hS => by (obtain _ := hS); go_simp; try with_reducible rfl) trivial ?_
        simp only [List.setIfInBounds_toArray, List.set_cons_succ, List.set_cons_zero]
        refine wpAnyH_do 7 126 rfl rfl (by kernel_rfl) (by kernel_rfl) (by kernel_rfl) (fun _ _ _ _ _ h => h) (by kernel_rfl) (fun W hS => by (obtain _ := hS); go_simp; try with_reducible rfl) trivial ?_
        simp only [List.setIfInBounds_toArray, List.set_cons_succ, List.set_cons_zero]
        refine wpAnyH_do 8 127 rfl rfl (by kernel_rfl) (by kernel_rfl) (by kernel_rfl) (fun _ _ _ _ _ h => h) (by kernel_rfl) (fun W hS => by (obtain _ := hS); go_simp; try with_reducible rfl) trivial ?_
        simp only [List.setIfInBounds_toArray, List.set_cons_succ, List.set_cons_zero]
        refine wpAnyH_one 9 rfl (by kernel_rfl) (by kernel_rfl) (fun K hK => ?_)
        go_simp
        refine (sameBytes_refl _ _ (all.take firm) _ (by rw [HLEN.out]; exact HR5.out.below (Below.refl _ _).drew) (by rw [HLEN.out]; exact HR6.out.below (Below.refl _ _).drew)).mono ?_
        rintro e w8 ⟨rfl, n8, rfl⟩
        have B8 := belD hB.drew n8
        refine hK _ _ trivial ?_
        clear hK
        generalize W.drew.drewN n8 = w8 at B8 ⊢
        try simp only [Act.put, List.setIfInBounds_toArray, List.set_cons_zero, List.set_cons_succ]
        refine wpAnyH_do 10 129 rfl rfl (by kernel_rfl) (by kernel_rfl) (by kernel_rfl) (fun _ _ _ _ _ h => h) (by kernel_rfl) (fun W hS => by (obtain _ := hS); go_simp; try with_reducible rfl) trivial ?_
        simp only [List.setIfInBounds_toArray, List.set_cons_succ, List.set_cons_zero]
        refine wpAnyH_do 11 130 rfl rfl (by kernel_rfl) (by kernel_rfl) (by kernel_rfl) (fun _ _ _ _ _ h => h) (by kernel_rfl) (fun W hS => by (obtain _ := hS); go_simp; try with_reducible rfl) trivial ?_
        simp only [List.setIfInBounds_toArray, List.set_cons_succ, List.set_cons_zero]
        refine wpAnyH_one 12 rfl (by kernel_rfl) (by kernel_rfl) (fun K hK => ?_)
        go_simp
        refine (lives30_any _).mono ?_
        rintro e w9 ⟨rfl, B9⟩
        have B9' := bel B8 B9
        refine hK _ _ trivial ?_
        clear hK
        try simp only [Act.put, List.setIfInBounds_toArray, List.set_cons_zero, List.set_cons_succ]
        refine wpAnyH_do 13 132 rfl rfl (by kernel_rfl) (by kernel_rfl) (by kernel_rfl) (fun _ _ _ _ _ h => h) (by kernel_rfl) (fun W hS => by (obtain _ := hS); go_simp; try with_reducible rfl) trivial ?_
        simp only [List.setIfInBounds_toArray, List.set_cons_succ, List.set_cons_zero]
        refine wpAnyH_do 14 8 rfl rfl (by kernel_rfl) (by kernel_rfl) (by kernel_rfl) (fun _ _ _ _ _ h => h) (by kernel_rfl) (fun W hS => by (obtain _ := hS); go_simp; try with_reducible rfl) trivial ?_
        simp only [List.setIfInBounds_toArray, List.set_cons_succ, List.set_cons_zero]
        refine wpAnyH_done (by kernel_rfl) ?_ _
        go_wp2_with fail
        go_ret
        exact ⟨rfl, B9'⟩
      · rw [if_neg hfl0] at hx6
        subst hx6
        have hb1 : bitsTo none n = 0 := rfl
        rw [hb1]
        have hB := B5
        clear hb1 HX6 O5 P5
        by_cases hf0 : 0 ≤ flip
        · have hnf : ¬ (firm : Int) < (n : Int) := by have := HN.out; omega
          clear hfl0
          go_wp2_with fail
          refine (lives30_any _).mono ?_
          rintro e w9 ⟨rfl, B9⟩
          have B9' := bel hB B9
          go_wp2_with fail
          go_ret
          exact ⟨rfl, B9'⟩
        · clear hfl0
          go_wp2_with fail
          refine (lives30_any _).mono ?_
          rintro e w9 ⟨rfl, B9⟩
          have B9' := bel hB B9
          go_wp2_with fail
          go_ret
          exact ⟨rfl, B9'⟩
end Go.Proofs.Ytmofakcpldbbmaa
