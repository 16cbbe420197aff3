/- The law PoolJournals. -/
import Derived.Test.YtfdacckkdjpjhaaPjB
import Derived.Test.YtfdacckkdjpjhaaPmA
import Derived.Test.YtfdacckkdjpjhaaHas
namespace Go.Proofs.Ytfdacckkdjpjhaa
open Go.RowKit

theorem rvAtJ {α : Type} {W : World} {n c i : Nat} {a : Option Addr} {l : List α} {f : α → Value} {k : α} (h : Rv W (.slice a n c) n (l.map f)) (hk : l[i]? = some k) : ∃ g off, a = some ⟨g, off, none⟩ ∧ W.cell? ⟨g, off + i, none⟩ = some (f k) := by
  obtain ⟨a', c', e, _, hr⟩ := h.opened
  injection e with e1
  rw [← e1] at hr
  exact hr.cell (i := i) (u := f k) (by rw [List.getElem?_map, hk]; rfl)
theorem rplenJ (x : Rep × Value) : ([.int .i64 x.1.task, .int .i64 x.1.worker, .int .i64 x.1.tr, x.2] : List Value).length = 4 := rfl
/-- The cells of an answer. -/
theorem RepsE.atJ {W : World} {lo base : Nat} {v : Value} {xs : List (Rep × Value)} (h : RepsE W lo base v xs) {i : Nat} {x : Rep × Value} (hx : xs[i]? = some x) : ∃ g c, v = .slice (some ⟨g, 0, none⟩) xs.length c ∧ xs.length ≤ c ∧ W.cell? ⟨g, i * 4, none⟩ = some (.int .i64 x.1.task) ∧ W.cell? ⟨g, i * 4 + 1, none⟩ = some (.int .i64 x.1.worker) ∧ W.cell? ⟨g, i * 4 + 2, none⟩ = some (.int .i64 x.1.tr) ∧ W.cell? ⟨g, i * 4 + 3, none⟩ = some x.2 := by
  obtain ⟨g, c, hj, hc, _, hcell⟩ := row_at (own_base h.own (Nat.zero_le _)) (by have := (List.getElem?_eq_some_iff.1 hx).1; omega)
  have hf := fun k => flat_at (fun x : Rep × Value => [.int .i64 x.1.task, .int .i64 x.1.worker, .int .i64 x.1.tr, x.2]) 4 rplenJ xs i k x hx
  exact ⟨g, c, hj, hc, hcell _ _ (hf 0 (by omega)), hcell _ _ (hf 1 (by omega)), hcell _ _ (hf 2 (by omega)), hcell _ _ (hf 3 (by omega))⟩
theorem RepsE.laterJ {W W' : World} {lo base : Nat} {v : Value} {xs : List (Rep × Value)} (h : RepsE W lo base v xs) (B : Below W.heap.size W W') : RepsE W' lo base v xs :=
  ⟨own_below h.own B, fun x hx => own_below (h.each x hx) B⟩
set_option maxRecDepth 20000 in
set_option maxHeartbeats 20000000 in
theorem law_PoolJournals (v : Value) (l : List Int) (keep : Int) (w : World) (hv : Rv w v l.length (l.map (Value.int .i64))) (hx : ∀ x ∈ l, -9223372036854775808 ≤ x ∧ x ≤ 9223372036854775807)
    (hk : -9223372036854775808 ≤ keep ∧ keep ≤ 9223372036854775807) :
    Calls Try.prog 3 #[v, .int .i64 keep] w fun e w' => e = .returned (.bool true) ∧ Below w.heap.size w w' := by
  obtain ⟨va, vc, rfl, hvc, _⟩ := hv.opened
  have HV := Bx.mk hv
  have HX := Bx.mk hx
  have HK := Bx.mk hk
  have hlm := hv.len
  unfold maxLen at hlm
  obtain ⟨N, hN⟩ : ∃ N, l.length = N := ⟨_, rfl⟩
  rw [hN] at hvc hlm ⊢
  have HN := Bx.mk hN
  clear hv hx hk hN
  go_enter Try.func3, Try.ntmps3
  have HD0 := Bx.mk (fun W => dnew W 100000 (by decide) (by decide))
  go_wp2_with fail
  refine (HD0.out _).mono ?_
  rintro e w1 ⟨d, X, rfl, D1, lX, B1⟩
  have J1 : JS w w1 d X (newD 100000) := ⟨D1, lX, B1⟩
  obtain ⟨E, hE, hF⟩ := JouF.new
  have HJ := Bx.mk (jopen J1 2 hE)
  have HF := Bx.mk hF
  clear D1 lX B1 J1 hE hF HD0
  go_wp2_with fail
  refine HJ.out.mono ?_
  rintro e w2 ⟨q, v2, us2, X2, rfl, J2, hq2, S2, L2⟩
  change JL w w2 d q X2 E 2 ⟨0, false⟩ at J2
  obtain ⟨k2, a2, c2, rfl⟩ := own_shape L2.o.own
  obtain rfl : k2 = 0 := own_k L2.o.own
  have HJ2 := Bx.mk J2
  have HP := Bx.mk (pz_new 2 3 (by decide) (by decide) w2)
  clear J2 hq2 S2 L2 HJ
  go_wp2_with fail
  refine HP.out.mono ?_
  rintro e w3 ⟨p, Z, rfl, P3, hZ3, B3⟩
  have HM3 : Bx (JouM w w3 p Z (newPl 2 3) d q X2 E ⟨0, false⟩) := ⟨⟨P3, HJ2.out.later B3, fun b hz hx => by have h1 := hZ3 b hz; have h2 := HJ2.out.js.d.xl b hx; omega, fun hz => by have h1 := hZ3 q hz; have h2 := HJ2.out.lg.lt; omega, fun b hz => Nat.le_trans HJ2.out.js.be.size (hZ3 b hz)⟩⟩
  have HA3 := Bx.mk (And.intro (JouA.new 2 3) (TL.new 2 3))
  clear P3 hZ3 B3 HJ2 HP
  go_wp2_with fail
  go_loopw [12] (fun u W => ∃ (i : Nat) (Z : Nat → Prop) (P : Pl), u = .int .i64 (i : Int) ∧ i ≤ 6 ∧ Bx (JouM w W p Z P d q X2 E ⟨0, false⟩) ∧ Bx (JouA i P ∧ TL 0 P)) (fun u _ => 6 - (intOf u).toNat)
  case atStart => exact ⟨0, _, _, rfl, by omega, HM3, HA3⟩
  case round =>
    clear HM3 HA3
    rename World => W
    obtain ⟨i, Z, P, rfl, hi, HM, HA⟩ := hrel
    by_cases hlt : i < 6
    · have hltI : (i : Int) < 6 := by omega
      obtain ⟨h0, h1⟩ := HA.out.1.add (by omega) (b := []) (by decide)
      have HA2 := Bx.mk (And.intro h1 (HA.out.2.add (i : Int) []))
      have H0 := Bx.mk h0
      have HD := Bx.mk (jm_add (i : Int) (.slice none 0 0) [] W HM.out (by omega) (Rv.of_own (World.ownsRow_nil _ 0 5 1)) (by decide))
      clear h0 h1 HM HA
      go_wp2_with fail
      refine HD.out.mono ?_
      rintro e w4 ⟨rfl, Z4, M4⟩
      rw [H0.out]
      have HM4 := Bx.mk M4
      clear M4 HD H0
      go_wp2_with fail
      go_roundw
      case rel => exact ⟨i + 1, Z4, _, by simp, by omega, HM4, HA2⟩
      case measure => simp [intOf]; omega
    · have hltI : ¬ (i : Int) < 6 := by omega
      have HJ0 := Bx.mk (HA.out.1.start)
      have HT0 := Bx.mk HA.out.2
      clear HA
      go_upto_region 13 with fail
      clear hltI hlt hi
      go_wp2_with fail
      go_loopw [13, 14, 15, 16, 17, 18, 19, 20, 21, 22, 23, 24] (fun u _ _ _ _ _ _ _ _ _ _ _ W => ∃ (j : Nat) (Z : Nat → Prop) (P : Pl) (X : Nat → Prop) (D : Dk) (K : List (Int × List UInt8)), u = .int .i64 (j : Int) ∧ j ≤ 24 ∧ j ≤ N ∧ Bx (JouM w W p Z P d q X D ⟨K.length, false⟩) ∧ Bx (JouI j P K ∧ TL j P ∧ JouF D j (K.map jrec))) (fun u _ _ _ _ _ _ _ _ _ _ _ _ => 24 - (intOf u).toNat)
      case atStart => exact ⟨0, _, _, _, _, [], rfl, by omega, by omega, HM, ⟨⟨HJ0.out, HT0.out, HF.out⟩⟩⟩
      case round =>
        clear HM HJ0 HT0 HF
        rename World => W
        obtain ⟨j, Z, P, X, D, K, rfl, hj, hjN, HM, HI⟩ := hrel
        by_cases hgo : j < N ∧ j < 24
        · obtain ⟨hjk, hj24⟩ := hgo
          have hjkI : (j : Int) < (N : Int) := by omega
          have hj24I : (j : Int) < 24 := by omega
          obtain ⟨y, hy⟩ : ∃ x, l[j]? = some x := ⟨_, List.getElem?_eq_getElem (by have := HN.out; omega)⟩
          have hyr := HX.out y (List.mem_of_getElem? hy)
          have hR := HV.out.below HM.out.bel
          rw [HN.out] at hR
          obtain ⟨gb, off, e1, hcy⟩ := rvAtJ hR hy
          subst e1
          have HYR := Bx.mk hyr
          clear hy hyr hR
          go_wp2_with fail
          refine (around_nat y 65536 (by omega) HYR.out.1 HYR.out.2 (by omega) _).mono ?_
          rintro e w5 ⟨z, hz, _, rfl, hw5⟩
          subst hw5
          have hx2I : (z : Int) % 2 = ((z % 2 : Nat) : Int) := by omega
          obtain ⟨x2, hx2⟩ : ∃ t, z % 2 = t := ⟨_, rfl⟩
          rw [hx2] at hx2I
          have hc3I : (z : Int) / 2 % 3 = ((z / 2 % 3 : Nat) : Int) := by omega
          obtain ⟨c3, hc3⟩ : ∃ t, z / 2 % 3 = t := ⟨_, rfl⟩
          rw [hc3] at hc3I
          have HD := Bx.mk (jm_ask (x2 : Int) (j : Int) W HM.out HI.out.2.1 (by omega))
          have HJA := Bx.mk (HI.out.1.ask (x2 : Int))
          have HTW := Bx.mk (fun hs (b : List UInt8) hb => ask_twice HM.out.pz.ok (x := (x2 : Int)) (t := (j : Int)) hs (b := b) (b2 := [1]) hb (by decide))
          have HAN := Bx.mk (jask_n HI.out.2.1 (x2 : Int) (j : Int))
          clear HM hcy hx2 hc3
          go_wp2_with fail
          refine HD.out.mono ?_
          rintro e w6 ⟨bv, Z6, rfl, O6, M6, T6⟩
          obtain ⟨A, hA⟩ : ∃ A, P.ask (x2 : Int) (j : Int) = A := ⟨_, rfl⟩
          rw [hA] at HJA HTW HAN O6 M6 T6 ⊢
          clear hA HD
          obtain ⟨⟨aid, ab, an, ais, aerr⟩, P6⟩ := A
          simp only at HJA HTW HAN O6 M6 T6 ⊢
          obtain ⟨ba, bc, rfl⟩ := own_isSlice O6
          obtain ⟨bl, hbl⟩ : ∃ n, ab.length = n := ⟨_, rfl⟩
          rw [hbl] at O6 ⊢
          clear hbl
          go_upto_region 18 with fail
          have B6 := (Below.refl w6.heap.size w6).alloc (Nat.le_refl _) (.cells #[.int .i64 aid, .slice ba bl bc] 37)
          have hb6 := World.alloc_heap_new w6 (.cells #[.int .i64 aid, .slice ba bl bc] 37)
          have hnz : ¬ Z6 w6.heap.size := fun h => Nat.lt_irrefl _ (M6.pz.zl _ h)
          have hnx : ¬ (X w6.heap.size ∨ w6.heap.size = q) := fun h => h.elim (fun h => Nat.lt_irrefl _ (M6.jl.js.d.xl _ h)) (fun h => by have := M6.jl.lg.lt; omega)
          have M7 := M6.later B6
          generalize w6.alloc (.cells #[.int .i64 aid, .slice ba bl bc] 37) = w7 at *
          obtain ⟨tb, htb⟩ : ∃ b, w6.heap.size = b := ⟨_, rfl⟩
          rw [htb] at hb6 hnz hnx ⊢
          have t0 : w7.cell? ⟨tb, 0, none⟩ = some (.int .i64 aid) := by simp [World.cell?, hb6]
          have HM7 := Bx.mk M7
          have HT7 := Bx.mk T6
          have HNZ := Bx.mk (And.intro hnz hnx)
          clear M6 M7 O6 T6 B6 htb hb6 hnz hnx
          cases ais
          · clear t0
            have HI2 : Bx (JouI (j + 1) P6 K ∧ TL (j + 1) P6 ∧ JouF D (j + 1) (K.map jrec)) := ⟨HJA.out, HT7.out, HI.out.2.2.more (Nat.le_succ j)⟩
            clear HI HTW HAN HJA HT7
            go_wp2_with fail
            go_roundw
            case rel => exact ⟨j + 1, Z6, P6, X, D, K, by simp, by omega, by omega, HM7, HI2⟩
            case measure => simp [intOf]; omega
          · have HI2 : Bx (JouI (j + 1) P6 K ∧ TL (j + 1) P6 ∧ JouF D (j + 1) (K.map jrec)) := ⟨HJA.out, HT7.out, HI.out.2.2.more (Nat.le_succ j)⟩
            rcases (show c3 = 0 ∨ 1 ≤ c3 by omega) with hc0 | hc0
            · have hc4I : (z : Int) / 2 % 3 = 0 := by omega
              clear t0 hc3I hc0 HI HTW HAN HJA HT7
              go_wp2_with fail
              go_roundw
              case rel => exact ⟨j + 1, Z6, P6, X, D, K, by simp, by omega, by omega, HM7, HI2⟩
              case measure => simp [intOf]; omega
            · have hn0 : ((c3 : Int) == 0) = false := by simp; omega
              clear HI2
              go_upto_region 20 with fail
              rw [byte_low z, show Value.int .u8 (j : Int) = vB (UInt8.ofNat j) from by rw [← byte_low j]; congr 1; omega]
              obtain ⟨xb, hxb⟩ : ∃ b, UInt8.ofNat z = b := ⟨_, rfl⟩
              obtain ⟨yb, hyb⟩ : ∃ b, UInt8.ofNat j = b := ⟨_, rfl⟩
              rw [hxb, hyb]
              obtain ⟨e1, e2, P7, k1, k2, k3, a1, a2, k4, k5, k6, k7, k8, k9, _⟩ := HTW.out rfl [xb, yb] (show (2 : Nat) ≤ 65536 by decide)
              have R8 := Rv.lit w7 [vB xb, vB yb] 5 2 (by decide)
              have B8 := (Below.refl w7.heap.size w7).alloc (Nat.le_refl _) (.cells #[vB xb, vB yb] 5)
              have ho8 : Off (.slice (some ⟨w7.heap.size, 0, none⟩) 2 2) Z6 := fun b hb hz => by
                have h2 := HM7.out.pz.zl b hz
                cases hb
                exact Nat.lt_irrefl _ h2
              have hox : ¬ (X w7.heap.size ∨ w7.heap.size = q) := fun h => h.elim (fun h => Nat.lt_irrefl _ (HM7.out.jl.js.d.xl _ h)) (fun h => by have := HM7.out.jl.lg.lt; omega)
              have M8 := HM7.out.later B8
              have t8 := (B8.cell (p := ⟨tb, 0, none⟩) (World.block_lt_of_cell? _ _ t0)).trans t0
              have hs8 : w7.heap.size < (w7.alloc (.cells #[vB xb, vB yb] 5)).heap.size := by rw [World.size_alloc]; omega
              change Rv (w7.alloc (.cells #[vB xb, vB yb] 5)) _ _ _ at R8
              generalize w7.alloc (.cells #[vB xb, vB yb] 5) = w8 at *
              obtain ⟨sb, hsb⟩ : ∃ b, w7.heap.size = b := ⟨_, rfl⟩
              rw [hsb] at R8 ho8 hox hs8 ⊢
              have hanr : -9223372036854775808 ≤ an ∧ an ≤ 9223372036854775807 := by have := HAN.out; omega
              have HD := jm_answer aid (x2 : Int) an (.slice (some ⟨sb, 0, none⟩) 2 2) [xb, yb] (j : Int) w8 M8 hanr R8 (show (2 : Nat) ≤ 1000000000 by decide) ho8
              rw [a1] at HD
              have HD := Bx.mk HD
              have HR8 := Bx.mk R8
              have HO8 := Bx.mk (And.intro ho8 hox)
              have HT8 := Bx.mk t8
              have HA2 := Bx.mk a2
              have HI3 : Bx (JouI (j + 1) P7 (K ++ [(aid, [xb, yb])])) := ⟨HI.out.1.took k1 k2 k4 k6 k7 k8 k9 rfl⟩
              have htl := HT7.out.answer aid (x2 : Int) an [xb, yb] (j : Int)
              rw [a1] at htl
              have HT9 := Bx.mk htl
              have HK5 := Bx.mk (And.intro k3 k5)
              clear htl
              have HS8 := Bx.mk hs8
              have HAR := Bx.mk hanr
              clear R8 B8 ho8 hox M8 t0 hsb hxb hyb a1 a2 k1 k2 k3 k4 k5 k6 k7 k8 k9 HM7 HJA HTW HAN hs8 hanr
              go_wp2_with fail
              refine HD.out.mono ?_
              rintro e w9 ⟨rfl, Z9, M9, S9⟩
              simp only
              have hnz9 : ¬ Z9 tb := fun h => (S9.grow tb h).elim HNZ.out.1 (fun h => absurd h (Nat.not_le_of_lt (World.block_lt_of_cell? _ _ HT8.out)))
              have t9 : w9.cell? ⟨tb, 0, none⟩ = some (.int .i64 aid) := by
                rw [← HT8.out]; unfold World.cell?; rw [S9.block tb (World.block_lt_of_cell? _ _ HT8.out) HNZ.out.1]
              have R9 := rv_step HR8.out S9 HO8.out.1
              have hns9 : ¬ Z9 sb := fun h => (S9.grow sb h).elim (HO8.out.1 sb rfl) (fun h => by have := HS8.out; omega)
              have hs9 := Nat.lt_of_lt_of_le HS8.out S9.size
              have HM9 := Bx.mk M9
              have HR9 := Bx.mk R9
              have HN9 := Bx.mk (And.intro hnz9 (And.intro hns9 hs9))
              clear M9 S9 R9 hnz9 hns9 hs9 t8 HD HR8 HT8 HNZ HS8
              go_upto_region 21 with fail
              have R10 := Rv.lit w9 [.int .u8 1] 5 1 (by decide)
              have B10 := (Below.refl w9.heap.size w9).alloc (Nat.le_refl _) (.cells #[.int .u8 1] 5)
              have ho10 : Off (.slice (some ⟨w9.heap.size, 0, none⟩) 1 1) Z9 := fun b hb hz => by
                have h2 := HM9.out.pz.zl b hz
                cases hb
                exact Nat.lt_irrefl _ h2
              have M10 := HM9.out.later B10
              have HD := jm_answer aid (x2 : Int) an (.slice (some ⟨w9.heap.size, 0, none⟩) 1 1) [1] (j : Int) _ M10 HAR.out R10 (show (1 : Nat) ≤ 1000000000 by decide) ho10
              rw [HA2.out] at HD
              have HD := Bx.mk HD
              have HB10 := Bx.mk B10
              have t10 := (B10.cell (p := ⟨tb, 0, none⟩) (World.block_lt_of_cell? _ _ t9)).trans t9
              clear R10 B10 ho10 M10
              go_wp2_with fail
              refine HD.out.mono ?_
              rintro e w11 ⟨rfl, Z11, M11, S11⟩
              simp only
              have hl9 := World.block_lt_of_cell? _ _ t9
              have t11 : w11.cell? ⟨tb, 0, none⟩ = some (.int .i64 aid) := by
                rw [← t10]; unfold World.cell?; rw [S11.block tb (World.block_lt_of_cell? _ _ t10) HN9.out.1]
              have R11 : Rv w11 (.slice (some ⟨sb, 0, none⟩) 2 2) 2 [vB xb, vB yb] := rv_step (HR9.out.below HB10.out) S11 (fun b hb hz => by cases hb; exact HN9.out.2.1 hz)
              have hs11 : sb < w11.heap.size := Nat.lt_of_lt_of_le HN9.out.2.2 (Nat.le_trans HB10.out.size S11.size)
              have HM11 := Bx.mk M11
              have HR11 := Bx.mk (And.intro R11 hs11)
              clear t9 t10 hl9 M11 S11 R11 hs11 HD HB10 HM9 HR9 HN9 HA2 HAR
              go_upto_region 22 with fail
              have hidr := HM11.out.pz.ok.idr aid (by rw [HK5.out.2]; exact HK5.out.1)
              have W0 : Wr (w11.alloc (.cells #[.slice none 0 0] 46)) w11.heap.size (.slice none 0 0) [] := ⟨Boxed.new w11 _ _, World.ownsRow_nil _ _ _ _⟩
              have A0 := (Below.refl w11.heap.size w11).alloc (Nat.le_refl _) (.cells #[.slice none 0 0] 46)
              have HWI := Bx.mk (wint_any w11.heap.size (.slice none 0 0) [] aid _ W0 (by omega) (by omega) (by decide))
              have HAW := Bx.mk (And.intro W0 A0)
              have t12 := (A0.cell (p := ⟨tb, 0, none⟩) (World.block_lt_of_cell? _ _ t11)).trans t11
              clear W0 A0 t11 hidr
              go_wp2_with fail
              refine HWI.out.mono ?_
              rintro e w12 ⟨v12, rfl, W12, S12⟩
              rw [List.nil_append] at W12
              have B12 := S12.bel HAW.out.1 HAW.out.2 (Nat.le_refl _)
              have R12 := HR11.out.1.below B12
              have hs11 := HR11.out.2
              have HRW := Bx.mk (wraw_any _ v12 (zvar aid) (.slice (some ⟨sb, 0, none⟩) 2 2) [xb, yb] w12 W12 R12 (fun w' v' hS => rvSame R12 (fun g _ hg => by cases hg; exact (hS.below W12).block sb hs11)) (by have : (zvar aid).length ≤ 10 := uvar_len _; simp; omega))
              have HW12 := Bx.mk (And.intro W12 B12)
              clear W12 S12 B12 R12 hs11 t12 HWI HAW HR11
              go_wp2_with fail
              refine HRW.out.mono ?_
              rintro e w13 ⟨v13, rfl, W13, S13⟩
              have B13 := S13.bel HW12.out.1 HW12.out.2 (Nat.le_refl _)
              have hjl := jrec_len (x := (aid, [xb, yb])) rfl
              have HDN := Bx.mk (wdone_any _ v13 (zvar aid ++ rawW [xb, yb]) w13 W13 (by change (jrec (aid, [xb, yb])).length ≤ _; omega))
              have HB13 := Bx.mk B13
              clear W13 S13 B13 HRW HW12 hjl
              go_wp2_with fail
              refine HDN.out.mono ?_
              rintro e w14 ⟨v14, rfl, M14⟩
              obtain ⟨k14, a14, c14, rfl⟩ := own_shape M14.1
              have R14 := M14.rv
              rw [List.length_map] at R14
              have hjl := jrec_len (x := (aid, [xb, yb])) rfl
              have hkl := HI.out.1.kl
              obtain ⟨E2, hE2, hF2⟩ := HI.out.2.2.app hjl (by omega)
              rw [List.length_map] at hE2
              have HAP := Bx.mk (jm_append (.slice a14 k14 c14) (jrec (aid, [xb, yb])) w14 (HM11.out.later (bel HB13.out M14.2)) R14 (by omega) (by show K.length ≤ _; omega) hE2)
              have HI5 : Bx (JouI (j + 1) P7 (K ++ [(aid, [xb, yb])]) ∧ TL (j + 1) P7 ∧ JouF E2 (j + 1) ((K ++ [(aid, [xb, yb])]).map jrec)) := ⟨HI3.out, HT9.out, by rw [List.map_append]; exact hF2⟩
              clear hjl hkl hE2 hF2 R14 M14 HDN HB13 HM11 HI3 HT9 HI
              go_wp2_with fail
              refine HAP.out.mono ?_
              rintro e w15 ⟨rfl, X15, M15⟩
              have HM15 : Bx (JouM w w15 p Z11 P7 d q X15 E2 ⟨(K ++ [(aid, [xb, yb])]).length, false⟩) := ⟨by rw [List.length_append]; exact M15⟩
              clear M15 HAP
              go_wp2_with fail
              go_roundw
              case rel => exact ⟨j + 1, Z11, P7, X15, E2, K ++ [(aid, [xb, yb])], by simp, by omega, by omega, HM15, HI5⟩
              case measure => simp [intOf]; omega
        · by_cases hjk : j < N
          case' neg =>
            have hjkI : ¬ (j : Int) < (N : Int) := by omega
            clear hgo
            go_upto_region 27 with fail
            clear hjkI hjk
          case' pos =>
            have hjkI : (j : Int) < (N : Int) := by omega
            have hj24I : ¬ (j : Int) < 24 := by omega
            clear hgo
            go_upto_region 27 with fail
            clear hjkI hj24I hjk
          all_goals
            have RK := Rv.lit W [.int .i64 keep] 3 1 (by decide)
            have BK := (Below.refl W.heap.size W).alloc (Nat.le_refl _) (.cells #[.int .i64 keep] 3)
            have oK : Off (.slice (some ⟨W.heap.size, 0, none⟩) 1 1) X := fun b hb hz => by
              have h2 := HM.out.jl.js.d.xl b hz
              cases hb
              exact Nat.lt_irrefl _ h2
            have MK := HM.out.later BK
            have HC := Bx.mk (dcrash _ [keep] _ (-1) (by decide) (fun x hx => by rw [List.mem_singleton.1 hx]; exact HK.out.2) MK.jl.js.d RK oK)
            have HMK := Bx.mk MK
            clear RK BK oK MK HM
            go_wp2_with fail
            refine HC.out.mono ?_
            rintro e w5 ⟨rfl, D5, S5⟩
            have J5 := HMK.out.jl.js.step D5 S5
            have P5 := HMK.out.pz.other S5 HMK.out.sep
            obtain ⟨E5, hE5⟩ := HI.out.2.2.crash HMK.out.jl.js.d.ok [keep] D5.ok
            have HO := Bx.mk (jopen J5 2 hE5)
            have HP5 := Bx.mk (And.intro P5 HMK.out.sep)
            clear D5 S5 J5 P5 hE5 HC HMK
            go_wp2_with fail
            refine HO.out.mono ?_
            rintro e w6 ⟨q2, v6, us6, X6, rfl, J6, hq6, S6, L6⟩
            obtain ⟨k6, a6, c6, rfl⟩ := own_shape L6.o.own
            obtain rfl : k6 = (K.map jrec).length := own_k L6.o.own
            have P6 := HP5.out.1.other S6 HP5.out.2
            have HDN := Bx.mk (pz_done w6 P6)
            have HFN := Bx.mk (HI.out.1.fin P6.ok)
            have HJL := Bx.mk (And.intro J6.js.be L6)
            have HRG : Bx (∀ x ∈ K, 0 ≤ x.1 ∧ x.1 ≤ 9223372036854775807) := ⟨fun x hx => by
              obtain ⟨e, he, _⟩ := HI.out.1.an x hx
              exact P6.ok.idr x.1 ((P6.ok.mem _).2 ⟨e, he⟩)⟩
            clear J6 hq6 S6 L6 P6 HO HP5
            obtain ⟨n, hn⟩ : ∃ n, (K.map jrec).length = n := ⟨_, rfl⟩
            rw [hn] at HJL ⊢
            have HKN := Bx.mk (show K.length = n by rw [← hn, List.length_map])
            clear hn
            go_wp2_with fail
            refine HDN.out.mono ?_
            rintro e w7 ⟨v7, xs, rfl, hxs, hr, B7⟩
            have hxl : xs.length = n := by rw [← HKN.out, ← HFN.out.1, ← hxs, List.length_map]
            obtain ⟨da, dc, rfl⟩ := own_isSlice hr.own
            rw [hxl] at hr ⊢
            have hfd : ∀ x ∈ K, ∃ y ∈ xs, y.1.task = x.1 ∧ y.1.body = x.2 := fun x hx => by
              obtain ⟨r, h1, h2, h3⟩ := HFN.out.2 x hx
              rw [← hxs] at h1
              obtain ⟨y, hy, rfl⟩ := List.mem_map.1 h1
              exact ⟨y, hy, h2, h3⟩
            have HFD := Bx.mk (And.intro hxl hfd)
            have HR7 := Bx.mk hr
            have HL7 := Bx.mk (And.intro (bel HJL.out.1 B7) (HJL.out.2.later B7))
            have HND := Bx.mk HI.out.1
            have hnN : n ≤ 24 := by have h1 := HI.out.1.kl; have h2 := HKN.out; omega
            clear hxl hfd hr B7 HJL HDN HFN hxs HI
            go_upto_region 32 with fail
            go_wp2_with fail
            go_loopw [29, 30, 31, 32, 33, 34, 35] (fun sv u _ _ _ _ _ W => ∃ (i : Nat) (sa : Option Addr) (sc : Nat), sv = .slice sa i sc ∧ u = .int .i64 (i : Int) ∧ i ≤ n ∧ Bx (Below w7.heap.size w7 W ∧ W.ownsRow w7.heap.size 3 1 (.slice sa i sc) i ((K.take i).map (fun x => Value.int .i64 x.1)))) (fun _ u _ _ _ _ _ _ => n - (intOf u).toNat)
            case atStart => exact ⟨0, none, 0, rfl, rfl, Nat.zero_le _, ⟨⟨Below.refl _ _, World.ownsRow_nil _ _ _ _⟩⟩⟩
            case round =>
              rename World => W
              obtain ⟨i, sa, sc, rfl, rfl, hi, HS⟩ := hrel
              by_cases hlt : i < n
              · have hltI : (i : Int) < (n : Int) := by omega
                obtain ⟨x, hx⟩ : ∃ x, K[i]? = some x := ⟨_, List.getElem?_eq_getElem (by have := HKN.out; omega)⟩
                have hxm := List.mem_of_getElem? hx
                have hjl := jrec_len (HND.out.bl x hxm)
                have hrg := HRG.out x hxm
                have hiK : i < (K.map jrec).length := by rw [List.length_map, HKN.out]; exact hlt
                have hxe : (K.map jrec)[i] = jrec x := by
                  obtain ⟨h1, h2⟩ := List.getElem?_eq_some_iff.1 hx
                  rw [List.getElem_map, h2]
                have LW := HL7.out.2.later HS.out.1
                obtain ⟨gb, off, cap, u, hv6, hcu, hru⟩ := LW.ls.at i hiK
                rw [hxe] at hru
                rw [List.length_map, HKN.out] at hv6
                injection hv6 with e1 e2 e3
                subst e1 e3
                obtain ⟨ua, uc, rfl⟩ : ∃ a c, u = .slice a (jrec x).length c := by
                  obtain ⟨a, c, h, _⟩ := hru.opened
                  exact ⟨a, c, h⟩
                have HRD := Bx.mk (read_any _ (jrec x) W hru (by omega))
                obtain ⟨jl, hjle⟩ : ∃ m, (jrec x).length = m := ⟨_, rfl⟩
                rw [hjle] at hcu HRD
                have HX1 := Bx.mk (And.intro hx (And.intro hrg hjl))
                clear hx hxm hjl hrg hiK hxe LW hru hjle e2
                go_wp2_with fail
                refine HRD.out.mono ?_
                rintro e w8 ⟨rb, rv, rfl, hrb, hrv, hst, B8⟩
                have HI1 : Bx (Calls Try.prog 24 #[.pointer (some ⟨rb, 0, none⟩)] w8 (RPost w8 rb rv (jrec x) (.ok (rawW x.2)) (.int .i64 x.1))) := ⟨by
                  have h := rint_any rb rv (jrec x) (.ok (jrec x)) w8 hst
                  rw [show rdI (.ok (jrec x)) = (x.1, .ok (rawW x.2)) from rdI_zvar x.1 (rawW x.2) (by have := HX1.out.2.1; omega)] at h
                  exact h⟩
                obtain ⟨_, _, _, hrr⟩ := hst.ok_inv
                have HB8 := Bx.mk (And.intro B8 (And.intro hrb hrr.lt))
                clear hst B8 HRD hcu hrb hrv hrr
                go_wp2_with fail
                refine HI1.out.mono ?_
                rintro e w9 ⟨rfl, hst9, S9⟩
                have HR1 : Bx (Calls Try.prog 25 #[.pointer (some ⟨rb, 0, none⟩)] w9 (LPost w9 rb rv (jrec x) (.ok []) 5 (x.2.map vB))) := ⟨by
                  have h := rraw_any rb rv (jrec x) (.ok (rawW x.2)) w9 hst9 (by have := HX1.out.2.2; omega)
                  have h2 := rdRaw_rawW x.2 [] (by have := HX1.out.2.2; unfold jrec rawW at this; rw [List.length_append, List.length_append] at this; omega)
                  rw [List.append_nil] at h2
                  rw [h2] at h
                  exact h⟩
                have B9 := HB8.out.1.trans (S9.below W.heap.size HB8.out.2.1 HB8.out.2.2)
                obtain ⟨_, _, _, hrr⟩ := hst9.ok_inv
                have HB9 := Bx.mk (And.intro B9 (And.intro HB8.out.2.1 hrr.lt))
                clear hst9 S9 B9 HB8 HI1 hrr
                go_wp2_with fail
                refine HR1.out.mono ?_
                rintro e w10 ⟨v10, rfl, O10, hst10, S10⟩
                have B10 := HB9.out.1.trans (S10.below W.heap.size HB9.out.2.1 HB9.out.2.2)
                obtain ⟨ra, rc, rfl⟩ := own_isSlice O10
                rw [List.length_map] at O10 ⊢
                have HO10 := Bx.mk (And.intro O10 (And.intro hst10 B10))
                have HRB := Bx.mk HB9.out.2.1
                clear O10 hst10 B10 S10 HB9 HR1
                go_wp2_with fail
                obtain ⟨p4, hp4⟩ : ∃ p : (Rep × Value) → Bool, p = fun y => decide (y.1.task = x.1) && sameB y.1.body x.2 := ⟨_, rfl⟩
                have HP4 := Bx.mk hp4
                clear hp4
                go_loopw [34, 35] (fun f u W' => ∃ kk : Nat, f = .bool ((xs.take kk).any p4) ∧ u = .int .i64 (kk : Int) ∧ kk ≤ n ∧ Bx (Below w10.heap.size w10 W')) (fun _ u _ => n - (intOf u).toNat)
                case atStart => exact ⟨0, rfl, rfl, Nat.zero_le _, ⟨Below.refl _ _⟩⟩
                case round =>
                  rename World => W4
                  obtain ⟨kk, rfl, rfl, hkk, HB4⟩ := hrel
                  by_cases hkl : kk < n
                  · have hklI : (kk : Int) < (n : Int) := by omega
                    obtain ⟨y, hy⟩ : ∃ y, xs[kk]? = some y := ⟨_, List.getElem?_eq_getElem (by rw [HFD.out.1]; exact hkl)⟩
                    have hsn : (xs.take (kk + 1)).any p4 = ((xs.take kk).any p4 || p4 y) := by rw [List.take_add_one, hy, List.any_append]; simp
                    obtain ⟨fb, hfb⟩ : ∃ b, (xs.take kk).any p4 = b := ⟨_, rfl⟩
                    rw [hfb] at hsn ⊢
                    have BB := bel (bel HS.out.1 HO10.out.2.2) HB4.out
                    have RR := HR7.out.laterJ BB
                    obtain ⟨g, c4, hv7, hc7, y0, y1, y2, y3⟩ := RR.atJ hy
                    rw [HFD.out.1] at hv7 hc7
                    injection hv7 with e1 e2 e3
                    subst e1 e3
                    have hye := RR.each y (List.mem_of_getElem? hy)
                    obtain ⟨ya, yc, hyv⟩ := own_isSlice hye
                    rw [hyv] at y3 hye
                    have HSN := Bx.mk hsn
                    have HSB := Bx.mk (sameBytes_any (.slice ya y.1.body.length yc) (.slice ra x.2.length rc) y.1.body x.2 W4 (Rv.of_own hye) (Rv.of_own (own_below HO10.out.1 HB4.out)))
                    obtain ⟨yl, hyl⟩ : ∃ m, y.1.body.length = m := ⟨_, rfl⟩
                    rw [hyl] at y3 HSB
                    obtain ⟨tk, htk⟩ : ∃ t, y.1.task = t := ⟨_, rfl⟩
                    rw [htk] at y0
                    have HTK := Bx.mk htk
                    clear hsn hfb hy BB RR hye hyv hyl htk y1 y2 e2
                    cases fb
                    · by_cases ht : tk = x.1
                      · have hp : Bx (p4 y = sameB y.1.body x.2) := ⟨by rw [HP4.out]; simp [HTK.out, ht]⟩
                        subst ht
                        obtain ⟨sb2, hsb2⟩ : ∃ b, sameB y.1.body x.2 = b := ⟨_, rfl⟩
                        rw [hsb2] at hp HSB
                        clear hsb2
                        go_wp2_with fail
                        refine HSB.out.mono ?_
                        rintro e w11 ⟨rfl, mm, rfl⟩
                        clear HSB y0 y3
                        go_wp2_with fail
                        go_roundw
                        case rel => exact ⟨kk + 1, by rw [HSN.out, hp.out]; rfl, by simp, by omega, ⟨belD HB4.out mm⟩⟩
                        case measure => simp [intOf]; omega
                      · have hp : Bx (p4 y = false) := ⟨by rw [HP4.out]; simp [HTK.out, ht]⟩
                        have hne : (tk == x.1) = false := by simp [ht]
                        clear HSB
                        go_wp2_with fail
                        go_roundw
                        case rel => exact ⟨kk + 1, by rw [HSN.out, hp.out]; rfl, by simp, by omega, HB4⟩
                        case measure => simp [intOf]; omega
                    · clear HSB y0 y3
                      go_wp2_with fail
                      go_roundw
                      case rel => exact ⟨kk + 1, by rw [HSN.out]; rfl, by simp, by omega, HB4⟩
                      case measure => simp [intOf]; omega
                  · have hklI : ¬ (kk : Int) < (n : Int) := by omega
                    have hft : (xs.take kk).any p4 = true := by
                      rw [List.take_of_length_le (by rw [HFD.out.1]; omega), List.any_eq_true]
                      obtain ⟨y, hy, h1, h2⟩ := HFD.out.2 x (List.mem_of_getElem? HX1.out.1)
                      exact ⟨y, hy, by rw [HP4.out]; simp [h1, h2, sameB]⟩
                    rw [hft]
                    have BB := bel (bel HS.out.1 HO10.out.2.2) HB4.out
                    have OS := own_below (own_below HS.out.2 HO10.out.2.2) HB4.out
                    have hl : ((K.take i).map (·.1)).length = i := by rw [List.length_map, List.length_take, HKN.out]; omega
                    have hnm : x.1 ∉ (K.take i).map (·.1) := fun hm => by
                      obtain ⟨h1, h2⟩ := List.getElem?_eq_some_iff.1 HX1.out.1
                      have e : K = K.take i ++ x :: K.drop (i + 1) := by rw [← h2, ← List.drop_eq_getElem_cons h1, List.take_append_drop]
                      have h := HND.out.nd
                      rw [e, List.map_append, List.map_cons, List.nodup_append] at h
                      exact h.2.2 x.1 hm x.1 (by simp) rfl
                    have HH0 := has_any (.slice sa i sc) ((K.take i).map (·.1)) x.1 W4 (by rw [hl, List.map_map]; exact Rv.of_own OS) (by rw [hl]; omega)
                    rw [show hasB ((K.take i).map (·.1)) x.1 = false from decide_eq_false hnm] at HH0
                    have HH := Bx.mk HH0
                    have hst : Rst W4 rb rv (jrec x) (.ok []) := by
                      obtain ⟨k, hk, hd, hrr⟩ := HO10.out.2.1.ok_inv
                      obtain ⟨c, h1, h2⟩ : ∃ c, rb ≠ c ∧ rv.ownBlock ≠ some c := by
                        cases ho : rv.ownBlock with
                        | none => exact ⟨rb + 1, by omega, by simp⟩
                        | some g => exact ⟨rb + g + 1, by omega, fun e => by cases e⟩
                      rw [hd]
                      exact .ok k hk (hrr.bstep (BStep.of_below HB4.out) h1 h2)
                    have HE : Bx (Calls Try.prog 28 #[.pointer (some ⟨rb, 0, none⟩)] W4 (fun en w' => en = .returned (.int .i64 0) ∧ ∃ n, w' = W4.drewN n)) := ⟨rend_any rb rv (jrec x) (.ok []) W4 hst⟩
                    have HBB := Bx.mk (And.intro BB OS)
                    have hsn : (K.take (i + 1)).map (fun x => Value.int .i64 x.1) = (K.take i).map (fun x => Value.int .i64 x.1) ++ [.int .i64 x.1] := by rw [List.take_add_one, HX1.out.1, List.map_append]; rfl
                    have HSN := Bx.mk hsn
                    clear hft HP4 BB OS hl hnm HH0 hst HB4 HO10 HS hsn
                    go_wp2_with fail
                    refine HH.out.mono ?_
                    rintro e w12 ⟨rfl, rfl⟩
                    go_wp2_with fail
                    refine HE.out.mono ?_
                    rintro e w12 ⟨rfl, mm, rfl⟩
                    clear HH HE
                    go_upto_region 48 with fail
                    have hX9 := Rv.lit (W4.drewN mm) [.int .i64 x.1] 3 1 (by decide)
                    have OD : (W4.drewN mm).ownsRow w7.heap.size 3 1 (.slice sa i sc) i ((K.take i).map (fun x => Value.int .i64 x.1)) := HBB.out.2
                    have O8 := OD.alloc (.cells #[.int .i64 x.1] 3)
                    have B8 := (belD HBB.out.1 mm).alloc (belD HBB.out.1 mm).size (.cells #[.int .i64 x.1] 3)
                    have hw7 := B8.size
                    obtain ⟨tcs, htcs⟩ : ∃ l, (K.take i).map (fun x => Value.int .i64 x.1) = l := ⟨_, rfl⟩
                    rw [htcs] at O8
                    rw [htcs] at HSN
                    clear htcs OD
                    go_wp2_with (at_builtin; go_loud (refine wpList_app2 _ rfl _ _ rfl Try.elI w7.heap.size (.slice sa i sc) i _ rfl O8 _ 1 _ rfl hX9 rfl (by simp [Value.oneCell']) (by omega) (by simpa using hw7) ?_; intro v9 w9 O9 g9 s9; refine later ?_))
                    refine Later.in ?_
                    have HS9 := Bx.mk (And.intro (B8.grown g9 B8.size (fun g hg => (O8.lt g hg).1)) O9)
                    obtain ⟨a9, c9, rfl⟩ := own_isSlice O9
                    clear O9 g9 s9 O8 B8 hX9 hw7 HBB
                    go_wp2_with fail
                    go_roundw
                    case rel => exact ⟨i + 1, a9, c9, rfl, by simp, by omega, ⟨HS9.out.1, by rw [HSN.out]; exact HS9.out.2⟩⟩
                    case measure => simp [intOf]; omega
              · have hltI : ¬ (i : Int) < (n : Int) := by omega
                have HLV := Bx.mk (lives34_any W)
                go_wp2_with fail
                refine HLV.out.mono ?_
                rintro e w8 ⟨rfl, B8⟩
                have hB : Below w.heap.size w w8 := by
                  have h1 := HL7.out.1
                  have h2 := HS.out.1
                  exact bel (bel h1 h2) B8
                have HE := Bx.mk hB
                clear HLV B8 HS HL7 HR7 hB
                go_wp2_with fail
                go_ret
                exact ⟨rfl, HE.out⟩
end Go.Proofs.Ytfdacckkdjpjhaa
