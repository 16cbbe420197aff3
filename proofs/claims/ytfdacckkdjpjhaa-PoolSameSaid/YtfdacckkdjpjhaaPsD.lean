/- The law PoolSame. -/
import Derived.Test.YtfdacckkdjpjhaaPsC
import Derived.Test.YtfdacckkdjpjhaaPlQ
import Derived.Deep.CutBlock
import Derived.Deep.CutRange
namespace Go.Proofs.Ytfdacckkdjpjhaa
open Go.RowKit

theorem zvar_len34 (x : Int) : (zvar x).length ≤ 10 := uvar_len _
theorem bs_at {l : List Int} {i : Nat} {x : Int} (hx : l[i]? = some x) (hi : i < 10) : ((l.take 10).map zvar)[i]? = some (zvar x) := by rw [List.getElem?_map, List.getElem?_take, if_pos hi, hx]; rfl
set_option maxRecDepth 20000 in
set_option maxHeartbeats 20000000 in
theorem law_PoolSame (v vl : Value) (l k : List Int) (workers timeout : Int) (w : World) (hv : Rv w v l.length (l.map (Value.int .i64))) (hx : ∀ x ∈ l, -9223372036854775808 ≤ x ∧ x ≤ 9223372036854775807)
    (hvk : Rv w vl k.length (k.map (Value.int .i64))) (hxk : ∀ x ∈ k, -9223372036854775808 ≤ x ∧ x ≤ 9223372036854775807) (hw : -9223372036854775808 ≤ workers ∧ workers ≤ 9223372036854775807) (ht : -9223372036854775808 ≤ timeout ∧ timeout ≤ 9223372036854775807) :
    Calls Try.prog 9 #[v, vl, .int .i64 workers, .int .i64 timeout] w fun e w' => e = .returned (.bool true) ∧ Below w.heap.size w w' := by
  obtain ⟨va, vc, rfl, hvc, _⟩ := hv.opened
  obtain ⟨ka, kc, rfl, hkc, _⟩ := hvk.opened
  have HV := Bx.mk hv
  have HX := Bx.mk hx
  have HVK := Bx.mk hvk
  have HXK := Bx.mk hxk
  have HW := Bx.mk hw
  have HT := Bx.mk ht
  have hlm := hv.len
  have hkm := hvk.len
  unfold maxLen at hlm hkm
  obtain ⟨N, hN⟩ : ∃ N, l.length = N := ⟨_, rfl⟩
  obtain ⟨NK, hNK⟩ : ∃ N, k.length = N := ⟨_, rfl⟩
  rw [hN] at hvc hlm ⊢
  rw [hNK] at hkc hkm ⊢
  have HN := Bx.mk hN
  have HNK := Bx.mk hNK
  clear hv hx hvk hxk hw ht hN hNK
  go_enter Try.func9, Try.ntmps9
  go_wp2_with fail
  refine (around_nat workers 8 (by omega) HW.out.1 HW.out.2 (by omega) _).mono ?_
  rintro e w1 ⟨a, ha, hae, rfl, rfl⟩
  go_wp2_with fail
  refine (around_nat timeout 6 (by omega) HT.out.1 HT.out.2 (by omega) _).mono ?_
  rintro e w1 ⟨b, hb, _, rfl, rfl⟩
  have HAE := Bx.mk hae
  obtain ⟨na, hna⟩ : ∃ n : Nat, 1 + (a : Int) = (n : Int) := ⟨1 + a, by omega⟩
  obtain ⟨nb, hnb⟩ : ∃ n : Nat, 1 + (b : Int) = (n : Int) := ⟨1 + b, by omega⟩
  have hna3 : 1 ≤ na ∧ na ≤ 8 := by omega
  have hnb3 : 1 ≤ nb ∧ nb ≤ 6 := by omega
  have hna2 : na = 1 + a := by omega
  have HNA := Bx.mk hna2
  have HP := Bx.mk (fun W => pz_new na (nb : Int) (by omega) (by omega) W)
  clear hae hna2
  go_wp2_with fail
  refine (HP.out _).mono ?_
  rintro e w1 ⟨p, Z, rfl, P1, hZ1, B1⟩
  have M1 : SamM w w1 p Z (newPl na (nb : Int)) [] (.slice none 0 0) [] 0 0 :=
    ⟨P1, SamI.new na _ (by omega), TL.new na _, Int.le_refl _, ⟨World.ownsRow_nil _ _ _ _, (fun _ h => by cases h)⟩, (fun _ h => by cases h), (fun _ h => by cases h), (fun _ h => by cases h), B1, hZ1, (fun _ h => by cases h)⟩
  have HM1 := Bx.mk M1
  clear M1 P1 B1 hZ1 HP hb hnb ha hna hnb3
  go_wp2_with fail
  refine (around_nat workers 8 (by omega) HW.out.1 HW.out.2 (by omega) _).mono ?_
  rintro e w2 ⟨a2, ha2, hae2, rfl, rfl⟩
  obtain rfl : a2 = a := by have h1 := HAE.out.out; have h2 := hae2.out; omega
  have hna : 1 + (a2 : Int) = (na : Int) := by have := HNA.out; omega
  clear hae2
  obtain ⟨m, hm⟩ : ∃ m : Nat, min (N : Int) 10 = (m : Int) := ⟨min N 10, by omega⟩
  have hm10 : m ≤ 10 := by omega
  have hmN : m ≤ N := by omega
  have hmm : m = min N 10 := by omega
  have HMM := Bx.mk hmm
  clear hmm
  go_upto_region 6 with fail
  clear hm hna ha2
  go_wp2_with fail
  go_loopw [13, 14] (fun u _ W => ∃ (i : Nat) (Z : Nat → Prop) (D : Pl), u = .int .i64 (i : Int) ∧ i ≤ m ∧ Bx (SamM w W p Z D (((l.take 10).map zvar).take i) (.slice none 0 0) [] 0 0)) (fun u _ _ => m - (intOf u).toNat)
  case atStart => exact ⟨0, _, _, rfl, Nat.zero_le _, HM1⟩
  case round =>
    clear HM1
    rename World => W
    obtain ⟨i, Z, D, rfl, hi, HM⟩ := hrel
    by_cases hlt : i < m
    · have hltI : (i : Int) < (m : Int) := by omega
      obtain ⟨x, hx⟩ : ∃ x, l[i]? = some x := ⟨_, List.getElem?_eq_getElem (by have := HN.out; omega)⟩
      have hbx := bs_at hx (by omega)
      have hxr := HX.out x (List.mem_of_getElem? hx)
      have hR := HV.out.below HM.out.bel
      rw [HN.out] at hR
      obtain ⟨gb, off, e1, hcx⟩ := rvAtS hR hx
      subst e1
      have hbl : (((l.take 10).map zvar).take i).length = i := by rw [List.length_take, List.length_map, List.length_take]; have := HMM.out; have := HN.out; omega
      obtain ⟨hadd, hsam⟩ := HM.out.sam.add HM.out.pz.ok (zvar x) (by have := zvar_len34 x; omega) (by rw [hbl]; omega)
      rw [hbl] at hadd hsam
      rw [← take_snocS hbx] at hsam
      have HAD := Bx.mk hadd
      have HSA := Bx.mk hsam
      have HTL := Bx.mk (HM.out.tl.add (3 * (i : Int)) (zvar x))
      have HTK := Bx.mk (show (D.add (3 * (i : Int)) (zvar x)).2.tick ≤ 0 from by
        have h := HM.out.tck
        unfold Pl.add
        split
        · exact h
        · split
          · exact h
          · split <;> exact h)
      have HBX := Bx.mk hbx
      have W0 := Wr.new34 W
      have A0 := (Below.refl W.heap.size W).alloc (Nat.le_refl _) (.cells #[.slice none 0 0] 46)
      have HI := Bx.mk (wint_any W.heap.size (.slice none 0 0) [] x _ W0 hxr.1 hxr.2 (by decide))
      have HAW := Bx.mk (And.intro W0 A0)
      have hcx := (A0.cell (p := ⟨gb, off + i, none⟩) (World.block_lt_of_cell? _ _ hcx)).trans hcx
      have hiN : (i : Int) < (N : Int) := by omega
      clear hx hbx hxr hR hbl hadd hsam W0 A0
      go_wp2_with fail
      refine HI.out.mono ?_
      rintro e w3 ⟨v3, rfl, W3, S3⟩
      rw [List.nil_append] at W3
      have B3 := S3.bel34 HAW.out.1 HAW.out.2 (Nat.le_refl _)
      have HD := Bx.mk (wdone_any _ v3 (zvar x) w3 W3 (by have := zvar_len34 x; omega))
      have HB3 := Bx.mk B3
      clear W3 S3 B3 HI HAW hcx
      go_wp2_with fail
      refine HD.out.mono ?_
      rintro e w4 ⟨v4, rfl, M4⟩
      have B4 := bel HB3.out M4.2
      have R4 := M4.rv
      rw [List.length_map] at R4
      have HA := Bx.mk (pz_add (3 * (i : Int)) v4 (zvar x) w4 (HM.out.pz.later B4) (by omega) R4 (by have := zvar_len34 x; omega))
      have HB4 := Bx.mk B4
      obtain ⟨k4, a4, c4, rfl⟩ := own_shape M4.1
      clear M4 B4 R4 HD HB3
      go_wp2_with fail
      refine HA.out.mono ?_
      rintro e w5 ⟨rfl, Z5, P5, S5⟩
      rw [HAD.out]
      have HM5 : Bx (SamM w w5 p Z5 (D.add (3 * (i : Int)) (zvar x)).2 (((l.take 10).map zvar).take (i + 1)) (.slice none 0 0) [] 0 0) := ⟨by
        have h := HM.out.later HB4.out
        exact ⟨P5, HSA.out, HTL.out, HTK.out, ⟨World.ownsRow_nil _ _ _ _, (fun _ h => by cases h)⟩, (fun _ h => by cases h), (fun _ h => by cases h), (fun _ h => by cases h), h.bel.trans (S5.toBelow h.bel.size h.zb), S5.ge h.bel.size h.zb, fun b hb => by
          obtain ⟨y, _, rfl⟩ := List.mem_map.1 (List.mem_of_mem_take hb)
          have := zvar_len34 y
          omega⟩⟩
      clear P5 S5 HA HM HSA HTL HTK HB4 HAD
      go_wp2_with fail
      go_roundw
      case rel => exact ⟨i + 1, _, _, by simp, by omega, HM5⟩
      case measure => simp [intOf]; omega
    · obtain rfl : i = m := by omega
      have hbs : ((l.take 10).map zvar).take i = (l.take 10).map zvar := List.take_of_length_le (by rw [List.length_map, List.length_take]; have := HMM.out; have := HN.out; omega)
      have HM2 := HM.out
      rw [hbs] at HM2
      have HM2 := Bx.mk HM2
      have hbl : ((l.take 10).map zvar).length = i := by rw [List.length_map, List.length_take]; have := HMM.out; have := HN.out; omega
      obtain ⟨bs, hbse⟩ : ∃ b, (l.take 10).map zvar = b := ⟨_, rfl⟩
      rw [hbse] at HM2 hbl
      have HBS := Bx.mk hbse
      have HBL := Bx.mk hbl
      clear HM hbs hbse hbl
      go_wp2_with fail
      go_loopw [15, 16, 17, 18, 19, 20, 21, 22, 23] (fun tk lv u _ _ _ _ _ _ W => ∃ (j T m2 : Nat) (Z : Nat → Prop) (D : Pl) (late : List (Rep × Value)) (la : Option Addr) (lc : Nat), u = .int .i64 (j : Int) ∧ tk = .int .i64 (T : Int) ∧ lv = .slice la m2 lc ∧ j ≤ 40 ∧ j ≤ NK ∧ T ≤ 2 * j ∧ m2 ≤ j ∧ Bx (late.length = m2) ∧ Bx (SamM w W p Z D bs (.slice la m2 lc) late (T : Int) j)) (fun _ _ u _ _ _ _ _ _ _ => 40 - (intOf u).toNat)
      case atStart => exact ⟨0, 0, 0, _, _, [], none, 0, rfl, rfl, rfl, Nat.zero_le _, Nat.zero_le _, Nat.le_refl _, Nat.le_refl _, ⟨rfl⟩, HM2⟩
      case round =>
        clear HM2
        rename World => W
        obtain ⟨j, T, m2, Z, D, late, la, lc, rfl, rfl, rfl, hj, hjN, hT, hm2, HML, HM⟩ := hrel
        by_cases hgo : j < NK ∧ j < 40
        · obtain ⟨hjk, hj40⟩ := hgo
          have hjkI : (j : Int) < (NK : Int) := by omega
          have hj40I : (j : Int) < 40 := by omega
          obtain ⟨y, hy⟩ : ∃ x, k[j]? = some x := ⟨_, List.getElem?_eq_getElem (by have := HNK.out; omega)⟩
          have hyr := HXK.out y (List.mem_of_getElem? hy)
          have hR := HVK.out.below HM.out.bel
          rw [HNK.out] at hR
          obtain ⟨gb, off, e1, hcy⟩ := rvAtS hR hy
          subst e1
          have HYR := Bx.mk hyr
          clear hy hyr hR
          go_wp2_with fail
          refine (around_nat y 1048576 (by omega) HYR.out.1 HYR.out.2 (by omega) _).mono ?_
          rintro e w5 ⟨z, hz, _, rfl, hw5⟩
          subst hw5
          have hT2m : T + z % 3 ≤ 2 * (j + 1) := by omega
          have hT2I : (T : Int) + (z : Int) % 3 = ((T + z % 3 : Nat) : Int) := by omega
          obtain ⟨T2, hT2⟩ : ∃ t, T + z % 3 = t := ⟨_, rfl⟩
          rw [hT2] at hT2m hT2I
          have hTT : T ≤ T2 := by omega
          have hnaI : ¬ (na : Int) = 0 := by omega
          have hnaN : ¬ na = 0 := by omega
          have hwkI : (z : Int) / 3 % (na : Int) = ((z / 3 % na : Nat) : Int) := by push_cast; rfl
          obtain ⟨wk, hwk⟩ : ∃ t, z / 3 % na = t := ⟨_, rfl⟩
          rw [hwk] at hwkI
          have hwk8 : wk < 8 := by have := Nat.mod_lt (z / 3) (show 0 < na by omega); omega
          have hc8I : (z : Int) / 24 % 8 = ((z / 24 % 8 : Nat) : Int) := by omega
          obtain ⟨c8, hc8⟩ : ∃ t, z / 24 % 8 = t := ⟨_, rfl⟩
          rw [hc8] at hc8I
          have hc8m : c8 < 8 := by omega
          clear hT2 hwk hc8 hcy hT
          rcases (show c8 = 0 ∨ c8 = 1 ∨ c8 = 2 ∨ 3 ≤ c8 by omega) with rfl | rfl | rfl | hc3
          · -- Die
            have HD := Bx.mk (sm_die (wk : Int) (T2 : Int) W (HM.out.wait (by omega) (Nat.le_refl j)) (Int.le_refl _))
            push_cast at hc8I
            clear HM
            go_wp2_with fail
            refine HD.out.mono ?_
            rintro e w6 ⟨r6, Z6, D6, rfl, M6⟩
            have HM6 := Bx.mk (M6.wait (Int.le_refl _) (Nat.le_succ j))
            clear M6 HD
            go_wp2_with fail
            go_roundw
            case rel => exact ⟨j + 1, T2, m2, Z6, D6, late, la, lc, by simp, rfl, rfl, by omega, by omega, by omega, by omega, HML, HM6⟩
            case measure => simp [intOf]; omega
          · -- Revive
            have HD := Bx.mk (sm_revive (wk : Int) W (HM.out.wait (T' := (T2 : Int)) (by omega) (Nat.le_refl j)))
            push_cast at hc8I
            clear HM
            go_wp2_with fail
            refine HD.out.mono ?_
            rintro e w6 ⟨r6, Z6, rfl, M6⟩
            have HM6 := Bx.mk (M6.wait (Int.le_refl _) (Nat.le_succ j))
            clear M6 HD
            go_wp2_with fail
            go_roundw
            case rel => exact ⟨j + 1, T2, m2, Z6, _, late, la, lc, by simp, rfl, rfl, by omega, by omega, by omega, by omega, HML, HM6⟩
            case measure => simp [intOf]; omega
          · -- Late
            push_cast at hc8I
            by_cases hm0 : 0 < m2
            · have hm0I : (0 : Int) < (m2 : Int) := by omega
              have hqI : (z : Int) / 192 % (m2 : Int) = ((z / 192 % m2 : Nat) : Int) := by push_cast; rfl
              have hql : z / 192 % m2 < m2 := Nat.mod_lt _ hm0
              obtain ⟨qq, hqq⟩ : ∃ t, z / 192 % m2 = t := ⟨_, rfl⟩
              rw [hqq] at hqI hql
              have hqlI : (qq : Int) < (m2 : Int) := by omega
              have hmNe : ¬ (m2 : Int) = 0 := by omega
              have hmNeN : ¬ m2 = 0 := by omega
              obtain ⟨x, hx⟩ : ∃ x, late[qq]? = some x := ⟨_, List.getElem?_eq_getElem (by rw [HML.out]; exact hql)⟩
              obtain ⟨g, c, hv2, hc, y0, y1, y2, y3⟩ := HM.out.at hx
              rw [HML.out] at hv2 hc
              injection hv2 with e1 e2 e3
              subst e1 e3
              have hxm := List.mem_of_getElem? hx
              have HD := Bx.mk (sm_answer x (T2 : Int) W (HM.out.wait (by omega) (Nat.le_refl j)) hxm (Int.le_refl _))
              obtain ⟨xa, xc, hxv⟩ := own_isSlice (HM.out.reps.each x hxm)
              obtain ⟨xl, hxl⟩ : ∃ n, x.1.body.length = n := ⟨_, rfl⟩
              rw [hxl] at hxv
              rw [hxv] at y3 HD
              obtain ⟨x1, hx1⟩ : ∃ n, x.1.task = n := ⟨_, rfl⟩
              obtain ⟨x2, hx2⟩ : ∃ n, x.1.worker = n := ⟨_, rfl⟩
              obtain ⟨x3, hx3⟩ : ∃ n, x.1.tr = n := ⟨_, rfl⟩
              rw [hx1] at y0 HD
              rw [hx2] at y1 HD
              rw [hx3] at y2 HD
              clear e2 hx hxm hxv hxl hx1 hx2 hx3 HM hqq
              go_wp2_with fail
              refine HD.out.mono ?_
              rintro e w6 ⟨f6, r6, Z6, D6, rfl, M6⟩
              have HM6 := Bx.mk (M6.wait (Int.le_refl _) (Nat.le_succ j))
              clear M6 HD y0 y1 y2 y3
              go_wp2_with fail
              go_roundw
              case rel => exact ⟨j + 1, T2, m2, Z6, D6, late, _, _, by simp, rfl, rfl, by omega, by omega, by omega, by omega, HML, HM6⟩
              case measure => simp [intOf]; omega
            · have hm0I : ¬ (0 : Int) < (m2 : Int) := by omega
              have HM6 := Bx.mk (HM.out.wait (T' := (T2 : Int)) (by omega) (Nat.le_succ j))
              clear HM
              go_wp2_with fail
              go_roundw
              case rel => exact ⟨j + 1, T2, m2, Z, D, late, la, lc, by simp, rfl, rfl, by omega, by omega, by omega, by omega, HML, HM6⟩
              case measure => simp [intOf]; omega
          · -- Ask
            have hn0 : ((c8 : Int) == 0) = false := by simp; omega
            have hn1 : ((c8 : Int) == 1) = false := by simp; omega
            have hn2 : ((c8 : Int) == 2) = false := by simp; omega
            have HD := Bx.mk (sm_ask (wk : Int) (T2 : Int) W (HM.out.wait (by omega) (Nat.le_refl j)) (Int.le_refl _) (by omega))
            have HAS := Bx.mk (HM.out.sam.asked HM.out.pz.ok (wk : Int) (T2 : Int))
            have HAN := Bx.mk (ask_n HM.out.tl (wk : Int) (T2 : Int))
            clear HM
            go_wp2_with fail
            refine HD.out.mono ?_
            rintro e w6 ⟨bv, Z6, rfl, O6, ho6, M6⟩
            obtain ⟨A, hA⟩ : ∃ A, D.ask (wk : Int) (T2 : Int) = A := ⟨_, rfl⟩
            rw [hA] at HAS HAN O6 M6 ⊢
            clear hA HD
            obtain ⟨⟨aid, ab, an, ais, aerr⟩, D6⟩ := A
            simp only at HAS HAN O6 M6 ⊢
            obtain ⟨ba, bc, rfl⟩ := own_isSlice O6
            obtain ⟨bl, hbl⟩ : ∃ n, ab.length = n := ⟨_, rfl⟩
            rw [hbl] at O6 ho6 ⊢
            have HBLn := Bx.mk hbl
            clear hbl
            go_upto_region 23 with fail
            have B6 := (Below.refl w6.heap.size w6).alloc (Nat.le_refl _) (.cells #[.int .i64 aid, .slice ba bl bc] 37)
            have hb6 := World.alloc_heap_new w6 (.cells #[.int .i64 aid, .slice ba bl bc] 37)
            have M7 := M6.later B6
            have O7 := own_below O6 B6
            generalize w6.alloc (.cells #[.int .i64 aid, .slice ba bl bc] 37) = w7 at *
            obtain ⟨tb, htb⟩ : ∃ b, w6.heap.size = b := ⟨_, rfl⟩
            rw [htb] at hb6 ⊢
            have t0 : w7.cell? ⟨tb, 0, none⟩ = some (.int .i64 aid) := by simp [World.cell?, hb6]
            have t1 : w7.cell? ⟨tb, 1, none⟩ = some (.slice ba bl bc) := by simp [World.cell?, hb6]
            have HM7 := Bx.mk (M7.wait (Int.le_refl _) (Nat.le_refl _))
            have HO7 := Bx.mk O7
            have HOF := Bx.mk ho6
            clear M6 M7 O6 O7 ho6 B6 htb
            cases ais
            · clear t0 t1 hb6
              go_wp2_with fail
              go_roundw
              case rel => exact ⟨j + 1, T2, m2, Z6, D6, late, la, lc, by simp, rfl, rfl, by omega, by omega, by omega, by omega, HML, HM7⟩
              case measure => simp [intOf]; omega
            · obtain ⟨ti, tbody, hai, hbsi, hab⟩ := HAS.out rfl
              have hbl20 : ab.length ≤ 20 := by rw [hab]; exact HM7.out.bl _ (List.mem_of_getElem? hbsi)
              have HLT := Bx.mk (show LateOk resL bs ⟨aid, (wk : Int), an, resL ab⟩ from ⟨ti, tbody, hbsi, hai, by rw [hab]⟩)
              have hw7 := HM7.out.bel.size
              clear hai hbsi hab HAS
              go_upto_region 24 with fail
              have s0 : w7.drew.cell? ⟨tb, 0, none⟩ = some (.int .i64 aid) ∧ w7.drew.cell? ⟨tb, 1, none⟩ = some (.slice ba bl bc) := ⟨t0, t1⟩
              refine wp_region_held_drew (S := fun W => W.cell? ⟨tb, 0, none⟩ = some (.int .i64 aid) ∧ W.cell? ⟨tb, 1, none⟩ = some (.slice ba bl bc)) (by kernel_rfl) s0 (fun _ => ?_)
              refine wpAnyH_do 0 107 rfl rfl (by kernel_rfl) (by kernel_rfl) (by kernel_rfl) (fun _ _ _ _ _ h => h) (by kernel_rfl) (fun W hS => by (obtain ⟨s1, s2⟩ := hS); go_simp; try with_reducible rfl) s0 ?_
              simp only [List.setIfInBounds_toArray, List.set_cons_succ, List.set_cons_zero]
              refine wpAnyH_do 1 108 rfl rfl (by kernel_rfl) (by kernel_rfl) (by kernel_rfl) (fun _ _ _ _ _ h => h) (by kernel_rfl) (fun W hS => by (obtain ⟨s1, s2⟩ := hS); go_simp; try with_reducible rfl) s0 ?_
              simp only [List.setIfInBounds_toArray, List.set_cons_succ, List.set_cons_zero]
              refine wpAnyH_do 2 109 rfl rfl (by kernel_rfl) (by kernel_rfl) (by kernel_rfl) (fun _ _ _ _ _ h => h) (by kernel_rfl) (fun W hS => by (obtain ⟨s1, s2⟩ := hS); go_simp; try with_reducible rfl) s0 ?_
              simp only [List.setIfInBounds_toArray, List.set_cons_succ, List.set_cons_zero]
              refine wpAnyH_do 3 110 rfl rfl (by kernel_rfl) (by kernel_rfl) (by kernel_rfl) (fun _ _ _ _ _ h => h) (by kernel_rfl) (fun W hS => by (obtain ⟨s1, s2⟩ := hS); go_simp; try with_reducible rfl) s0 ?_
              simp only [List.setIfInBounds_toArray, List.set_cons_succ, List.set_cons_zero]
              refine wpAnyH_do 4 111 rfl rfl (by kernel_rfl) (by kernel_rfl) (by kernel_rfl) (fun _ _ _ _ _ h => h) (by kernel_rfl) (fun W hS => by (obtain ⟨s1, s2⟩ := hS); go_simp; try with_reducible rfl) s0 ?_
              simp only [List.setIfInBounds_toArray, List.set_cons_succ, List.set_cons_zero]
              refine wpAnyH_do 5 112 rfl rfl (by kernel_rfl) (by kernel_rfl) (by kernel_rfl) (fun _ _ _ _ _ h => h) (by kernel_rfl) (fun W hS => by (obtain ⟨s1, s2⟩ := hS); go_simp; try with_reducible rfl) s0 ?_
              simp only [List.setIfInBounds_toArray, List.set_cons_succ, List.set_cons_zero]
              refine wpAnyH_do 6 113 rfl rfl (by kernel_rfl) (by kernel_rfl) (by kernel_rfl) (fun _ _ _ _ _ h => h) (by kernel_rfl) (fun W hS => by (obtain ⟨s1, s2⟩ := hS); go_simp; try with_reducible rfl) s0 ?_
              simp only [List.setIfInBounds_toArray, List.set_cons_succ, List.set_cons_zero]
              refine wpAnyH_one 7 rfl (by kernel_rfl) (by kernel_rfl) (fun K hK => ?_)
              go_simp
              have RV7 : Rv w7.drew (.slice ba bl bc) ab.length (ab.map vB) := by rw [HBLn.out]; exact Rv.of_own HO7.out
              refine (result_any (.slice ba bl bc) ab w7.drew RV7 (by omega)).mono ?_
              rintro e w8 ⟨rv8, rfl, N8⟩
              obtain ⟨rl, ra, rc, rfl⟩ := own_shape N8.1
              have B8 : Below w7.heap.size w7 w8 := (Below.refl w7.heap.size w7).drew.trans (N8.2.mono (Nat.le_refl _))
              have c8' : ∀ j u, w7.cell? ⟨tb, j, none⟩ = some u → w8.cell? ⟨tb, j, none⟩ = some u := fun j u hc => (B8.cell (p := ⟨tb, j, none⟩) (World.block_lt_of_cell? _ _ hc)).trans hc
              have s8 := And.intro (c8' _ _ t0) (c8' _ _ t1)
              refine hK _ _ s8 ?_
              clear hK
              refine wpAnyH_do 8 115 rfl rfl (by kernel_rfl) (by kernel_rfl) (by kernel_rfl) (fun _ _ _ _ _ h => h) (by kernel_rfl) (fun W hS => by (obtain ⟨s1, s2⟩ := hS); go_simp; try with_reducible rfl) s8 ?_
              simp only [List.setIfInBounds_toArray, List.set_cons_succ, List.set_cons_zero]
              have hone := Rv.lit w8 [.int .i64 aid, .int .i64 (wk : Int), .int .i64 an, .slice ra rl rc] 44 1 (by decide)
              have B9 := B8.alloc B8.size (.cells #[.int .i64 aid, .int .i64 (wk : Int), .int .i64 an, .slice ra rl rc] 44)
              have BA := (Below.refl w8.heap.size w8).alloc (Nat.le_refl _) (.cells #[.int .i64 aid, .int .i64 (wk : Int), .int .i64 an, .slice ra rl rc] 44)
              have s9 := And.intro ((BA.cell (p := ⟨tb, 0, none⟩) (World.block_lt_of_cell? _ _ s8.1)).trans s8.1) ((BA.cell (p := ⟨tb, 1, none⟩) (World.block_lt_of_cell? _ _ s8.2)).trans s8.2)
              have M9 := HM7.out.later B9
              have hvr : (w8.alloc (.cells #[.int .i64 aid, .int .i64 (wk : Int), .int .i64 an, .slice ra rl rc] 44)).ownsRow w.heap.size 5 1 (.slice ra rl rc) (resL ab).length ((resL ab).map vB) := by
                have h1 := N8.1
                rw [List.length_map] at h1
                exact own_below (own_base h1 hw7) BA
              have hvo : Off (.slice ra rl rc) Z6 := fun b hb hz => by
                have h1 := (N8.1.lt b hb).1
                have h2 := HM7.out.pz.zl b hz
                have h3 : w7.drew.heap.size = w7.heap.size := rfl
                omega
              have hO9 := M9.reps.own
              rw [HML.out] at hO9
              refine wpAnyH_one 9 rfl (by kernel_rfl) (by kernel_rfl) (fun K hK => ?_)
              go_simp
              refine hK _ _ s9 ?_
              clear hK
              refine wpAnyH_one 10 rfl (by kernel_rfl) (by kernel_rfl) (fun K hK => ?_)
              refine opApp _ _ rfl Try.elRp w.heap.size (.slice la m2 lc) m2 _ rfl hO9 (.slice (some ⟨w8.heap.size, 0, none⟩) 1 1) 1 [.int .i64 aid, .int .i64 (wk : Int), .int .i64 an, .slice ra rl rc] rfl hone rfl (by intro u hu; simp at hu; rcases hu with rfl | rfl | rfl | rfl <;> rfl) (by omega) M9.bel.size ?_
              intro v13 w13 O13 g13 sn13
              obtain ⟨a13, q13, rfl⟩ := own_isSlice O13
              have M13 := M9.app (r := ⟨aid, (wk : Int), an, resL ab⟩) (v := .slice ra rl rc) hvr hvo ⟨HLT.out, HAN.out.1, by have h1 := HAN.out.2; show an ≤ 1000000; omega⟩ (by rw [HML.out]; exact O13) g13 sn13
              have htk : kindAt (w8.alloc (.cells #[.int .i64 aid, .int .i64 (wk : Int), .int .i64 an, .slice ra rl rc] 44)) tb = some (some 37) := by
                unfold kindAt
                rw [B9.block tb (World.block_lt_of_cell? _ _ t0), hb6]
                rfl
              have htbb := g13.block tb (World.block_lt_of_cell? _ _ s9.1) (fun e => absurd rfl (kind_ne (own_kind hO9 e.symm) htk (by decide)))
              have s13 : w13.cell? ⟨tb, 0, none⟩ = some (.int .i64 aid) ∧ w13.cell? ⟨tb, 1, none⟩ = some (.slice ba bl bc) := by
                refine ⟨?_, ?_⟩
                · rw [← s9.1]; unfold World.cell?; rw [htbb]
                · rw [← s9.2]; unfold World.cell?; rw [htbb]
              refine hK _ _ s13 ?_
              clear hK
              simp only [Act.put, List.setIfInBounds_toArray]
              refine wpAnyH_do 11 16 rfl rfl (by kernel_rfl) (by kernel_rfl) (by kernel_rfl) (fun _ _ _ _ _ h => h) (by kernel_rfl) (fun W hS => by (obtain ⟨s1, s2⟩ := hS); go_simp; try with_reducible rfl) s13 ?_
              simp only [List.setIfInBounds_toArray, List.set_cons_succ, List.set_cons_zero]
              refine wpAnyH_done (by kernel_rfl) ?_ _
              obtain ⟨late2, hl2⟩ : ∃ l2, late ++ [((⟨aid, (wk : Int), an, resL ab⟩ : Rep), Value.slice ra rl rc)] = l2 := ⟨_, rfl⟩
              rw [hl2] at M13
              have hl2l : late2.length = m2 + 1 := by rw [← hl2, List.length_append, HML.out]; rfl
              have hl2x : late2[m2]? = some (⟨aid, (wk : Int), an, resL ab⟩, .slice ra rl rc) := by rw [← hl2, ← HML.out, List.getElem?_append_right (Nat.le_refl _), Nat.sub_self]; rfl
              obtain ⟨m3, hm3⟩ : ∃ x, m2 + 1 = x := ⟨_, rfl⟩
              rw [hm3] at hl2l M13 ⊢
              have hm3b : m3 ≤ j + 1 := by omega
              have HM3 := Bx.mk hm3
              have HL2 := Bx.mk hl2l
              have HM13 := Bx.mk M13
              have HX2 := Bx.mk hl2x
              obtain ⟨ans, hans⟩ : ∃ x : Rep, (⟨aid, (wk : Int), an, resL ab⟩ : Rep) = x := ⟨_, rfl⟩
              clear M13 hl2 hl2l hl2x O13 g13 sn13 s0 s8 s9 s13 t0 t1 B8 B9 BA M9 hvr hvo hO9 hone N8 RV7 htk htbb c8' hb6 hm3 hw7 hbl20 HLT HO7 HOF HBLn HM7 HAN HML hans ans
              rcases (show z / 192 % 2 = 0 ∨ z / 192 % 2 = 1 by omega) with hq | hq
              · have hq0 : (z : Int) / 192 % 2 = 0 := by omega
                obtain ⟨g, c, hv2, hc, y0, y1, y2, y3⟩ := HM13.out.at HX2.out
                rw [HL2.out] at hv2 hc
                injection hv2 with e1 e2 e3
                subst e1 e3
                simp only at y0 y1 y2 y3
                have HD := Bx.mk (sm_answer (⟨aid, (wk : Int), an, resL ab⟩, .slice ra rl rc) (T2 : Int) w13 HM13.out (List.mem_of_getElem? HX2.out) (Int.le_refl _))
                have hm1 : (m3 : Int) - 1 = (m2 : Int) := by have := HM3.out; omega
                have hm2l : (m2 : Int) < (m3 : Int) := by have := HM3.out; omega
                clear e2 hq HM13 HX2
                go_wp2_with fail
                refine HD.out.mono ?_
                rintro e w14 ⟨f6, r6, Z14, D14, rfl, M14⟩
                have HM14 := Bx.mk M14
                clear M14 HD y0 y1 y2 y3
                go_wp2_with fail
                go_roundw
                case rel => exact ⟨j + 1, T2, m3, Z14, D14, late2, _, _, by simp, rfl, rfl, by omega, by omega, by omega, hm3b, HL2, HM14⟩
                case measure => simp [intOf]; omega
              · have hq0 : (z : Int) / 192 % 2 = 1 := by omega
                clear hq
                go_wp2_with fail
                go_roundw
                case rel => exact ⟨j + 1, T2, m3, Z6, D6, late2, _, _, by simp, rfl, rfl, by omega, by omega, by omega, hm3b, HL2, HM13⟩
                case measure => simp [intOf]; omega
        · by_cases hjk : j < NK
          case' neg =>
            have hjkI : ¬ (j : Int) < (NK : Int) := by omega
            have HRV := Bx.mk (sm_revive 0 W HM.out)
            have HLV := Bx.mk (liv_revive HM.out.pz.ok)
            clear HM hgo
            go_upto_region 34 with fail
            clear hjkI hjk
          case' pos =>
            have hjkI : (j : Int) < (NK : Int) := by omega
            have hj40I : ¬ (j : Int) < 40 := by omega
            have HRV := Bx.mk (sm_revive 0 W HM.out)
            have HLV := Bx.mk (liv_revive HM.out.pz.ok)
            clear HM hgo
            go_upto_region 34 with fail
            clear hjkI hj40I hjk
          all_goals
            go_wp2_with fail
            refine HRV.out.mono ?_
            rintro e w5 ⟨r5, Z5, rfl, M5⟩
            have HF := Bx.mk (SamF.of M5 HLV.out (by have := HBL.out; omega))
            clear M5 HLV HRV
            go_wp2_with fail
            go_loopw [15, 24, 25, 26, 27, 28] (fun tk u _ _ _ _ W => ∃ (c T n : Nat) (Z : Nat → Prop) (D : Pl), tk = .int .i64 (T : Int) ∧ u = .int .i64 (c : Int) ∧ c ≤ 12 ∧ T ≤ 80 + 7 * c ∧ n ≤ 40 + c ∧ Bx (SamF w W p Z D bs (.slice la m2 lc) late (T : Int) n c)) (fun _ u _ _ _ _ _ => 12 - (intOf u).toNat)
            case atStart => exact ⟨0, T, j, Z5, _, rfl, rfl, by omega, by omega, by omega, HF⟩
            case round =>
              clear HF hT hj hjN
              rename World => W3
              obtain ⟨c, T3, n, Z6, D6, rfl, rfl, hc, hT3, hn, HF⟩ := hrel
              by_cases hc12 : c < 12
              · have hc12I : (c : Int) < 12 := by omega
                obtain ⟨T4, hT4⟩ : ∃ t, T3 + 7 = t := ⟨_, rfl⟩
                have hT4I : (T3 : Int) + 7 = (T4 : Int) := by omega
                have hT4b : T4 ≤ 80 + 7 * (c + 1) := by omega
                have tck := HF.out.m.tck
                have HD := Bx.mk (sm_ask 0 (T4 : Int) W3 (HF.out.m.wait (by omega) (Nat.le_refl n)) (Int.le_refl _) (by omega))
                have HAS := Bx.mk (HF.out.m.sam.asked HF.out.m.pz.ok 0 (T4 : Int))
                have HAN := Bx.mk (ask_n HF.out.m.tl 0 (T4 : Int))
                have HRA := Bx.mk (round_ask HF.out.m.pz.ok HF.out.l HF.out.m.sam.tmo (t := (T4 : Int)) (by omega) (by omega))
                have HRD := Bx.mk (fun hs (b : List UInt8) hb => round_done HF.out.m.sam HF.out.m.pz.ok HF.out.l (t := (T4 : Int)) (by omega) (by omega) hs (b := b) hb)
                have HO := Bx.mk HF.out.o
                have HL := Bx.mk (liv_ask HF.out.l 0 (T4 : Int))
                clear HF tck hT4
                go_wp2_with fail
                refine HD.out.mono ?_
                rintro e w6 ⟨bv, Z7, rfl, O6, ho6, M6⟩
                obtain ⟨A, hA⟩ : ∃ A, D6.ask 0 (T4 : Int) = A := ⟨_, rfl⟩
                rw [hA] at HAS HAN HRA HRD HL O6 M6 ⊢
                clear hA HD
                obtain ⟨⟨aid, ab, an, ais, aerr⟩, D7⟩ := A
                simp only at HAS HAN HRA HRD HL O6 M6 ⊢
                obtain rfl : aerr = 0 := HRA.out.1
                obtain ⟨ba, bc, rfl⟩ := own_isSlice O6
                obtain ⟨bl, hbl⟩ : ∃ n, ab.length = n := ⟨_, rfl⟩
                rw [hbl] at O6 ho6 ⊢
                have HBLn := Bx.mk hbl
                clear hbl
                go_upto_region 40 with fail
                have B6 := (Below.refl w6.heap.size w6).alloc (Nat.le_refl _) (.cells #[.int .i64 aid, .slice ba bl bc] 37)
                have hb6 := World.alloc_heap_new w6 (.cells #[.int .i64 aid, .slice ba bl bc] 37)
                have hnz : ¬ Z7 w6.heap.size := fun h => Nat.lt_irrefl _ (M6.pz.zl _ h)
                have M7 := M6.later B6
                have O7 := own_below O6 B6
                generalize w6.alloc (.cells #[.int .i64 aid, .slice ba bl bc] 37) = w7 at *
                obtain ⟨tb, htb⟩ : ∃ b, w6.heap.size = b := ⟨_, rfl⟩
                rw [htb] at hb6 hnz ⊢
                have t0 : w7.cell? ⟨tb, 0, none⟩ = some (.int .i64 aid) := by simp [World.cell?, hb6]
                have t1 : w7.cell? ⟨tb, 1, none⟩ = some (.slice ba bl bc) := by simp [World.cell?, hb6]
                have HM7 := Bx.mk M7
                have HO7 := Bx.mk O7
                have HNZ := Bx.mk hnz
                clear M6 M7 O6 O7 ho6 B6 htb hb6 hnz
                cases ais
                · have hop : opn D7 D7.ids = [] := by
                    rcases HRA.out.2 with h | h
                    · exact h.2
                    · cases h.1
                  have HF2 : Bx (SamF w w7 p Z7 D7 bs (.slice la m2 lc) late (T4 : Int) (n + 1) (c + 1)) := ⟨⟨HM7.out, HL.out, by rw [hop]; exact Nat.zero_le _⟩⟩
                  clear t0 t1 hop HRA HRD HAS HAN HM7 HO7 HL HO
                  go_wp2_with fail
                  go_roundw
                  case rel => exact ⟨c + 1, T4, n + 1, Z7, D7, rfl, by simp, by omega, by omega, by omega, HF2⟩
                  case measure => simp [intOf]; omega
                · obtain ⟨ti, tbody, hai, hbsi, hab⟩ := HAS.out rfl
                  have hbl20 : ab.length ≤ 20 := by rw [hab]; exact HM7.out.bl _ (List.mem_of_getElem? hbsi)
                  have HLT := Bx.mk (show LateOk resL bs ⟨aid, 0, an, resL ab⟩ from ⟨ti, tbody, hbsi, hai, by rw [hab]⟩)
                  clear hai hbsi hab HAS HRA
                  go_upto_region 43 with fail
                  have s0 : w7.drew.cell? ⟨tb, 0, none⟩ = some (.int .i64 aid) ∧ w7.drew.cell? ⟨tb, 1, none⟩ = some (.slice ba bl bc) := ⟨t0, t1⟩
                  refine wp_region_held_drew (S := fun W => W.cell? ⟨tb, 0, none⟩ = some (.int .i64 aid) ∧ W.cell? ⟨tb, 1, none⟩ = some (.slice ba bl bc)) (by kernel_rfl) s0 (fun _ => ?_)
                  refine wpAnyH_do 0 180 rfl rfl (by kernel_rfl) (by kernel_rfl) (by kernel_rfl) (fun _ _ _ _ _ h => h) (by kernel_rfl) (fun W hS => by (obtain ⟨s1, s2⟩ := hS); go_simp; try with_reducible rfl) s0 ?_
                  simp only [List.setIfInBounds_toArray, List.set_cons_succ, List.set_cons_zero]
                  refine wpAnyH_do 1 181 rfl rfl (by kernel_rfl) (by kernel_rfl) (by kernel_rfl) (fun _ _ _ _ _ h => h) (by kernel_rfl) (fun W hS => by (obtain ⟨s1, s2⟩ := hS); go_simp; try with_reducible rfl) s0 ?_
                  simp only [List.setIfInBounds_toArray, List.set_cons_succ, List.set_cons_zero]
                  refine wpAnyH_do 2 182 rfl rfl (by kernel_rfl) (by kernel_rfl) (by kernel_rfl) (fun _ _ _ _ _ h => h) (by kernel_rfl) (fun W hS => by (obtain ⟨s1, s2⟩ := hS); go_simp; try with_reducible rfl) s0 ?_
                  simp only [List.setIfInBounds_toArray, List.set_cons_succ, List.set_cons_zero]
                  refine wpAnyH_do 3 183 rfl rfl (by kernel_rfl) (by kernel_rfl) (by kernel_rfl) (fun _ _ _ _ _ h => h) (by kernel_rfl) (fun W hS => by (obtain ⟨s1, s2⟩ := hS); go_simp; try with_reducible rfl) s0 ?_
                  simp only [List.setIfInBounds_toArray, List.set_cons_succ, List.set_cons_zero]
                  refine wpAnyH_do 4 184 rfl rfl (by kernel_rfl) (by kernel_rfl) (by kernel_rfl) (fun _ _ _ _ _ h => h) (by kernel_rfl) (fun W hS => by (obtain ⟨s1, s2⟩ := hS); go_simp; try with_reducible rfl) s0 ?_
                  simp only [List.setIfInBounds_toArray, List.set_cons_succ, List.set_cons_zero]
                  refine wpAnyH_do 5 185 rfl rfl (by kernel_rfl) (by kernel_rfl) (by kernel_rfl) (fun _ _ _ _ _ h => h) (by kernel_rfl) (fun W hS => by (obtain ⟨s1, s2⟩ := hS); go_simp; try with_reducible rfl) s0 ?_
                  simp only [List.setIfInBounds_toArray, List.set_cons_succ, List.set_cons_zero]
                  refine wpAnyH_do 8 188 rfl rfl (by kernel_rfl) (by kernel_rfl) (by kernel_rfl) (fun _ _ _ _ _ h => h) (by kernel_rfl) (fun W hS => by (obtain ⟨s1, s2⟩ := hS); go_simp; try with_reducible rfl) s0 ?_
                  simp only [List.setIfInBounds_toArray, List.set_cons_succ, List.set_cons_zero]
                  refine wpAnyH_one 6 rfl (by kernel_rfl) (by kernel_rfl) (fun K hK => ?_)
                  go_simp
                  have RV7 : Rv w7.drew (.slice ba bl bc) ab.length (ab.map vB) := by rw [HBLn.out]; exact Rv.of_own HO7.out
                  refine (result_any (.slice ba bl bc) ab w7.drew RV7 (by omega)).mono ?_
                  rintro e w8 ⟨rv8, rfl, N8⟩
                  obtain ⟨rl, ra, rc, rfl⟩ := own_shape N8.1
                  have B8 : Below w7.heap.size w7 w8 := (Below.refl w7.heap.size w7).drew.trans (N8.2.mono (Nat.le_refl _))
                  have c8' : ∀ j u, w7.cell? ⟨tb, j, none⟩ = some u → w8.cell? ⟨tb, j, none⟩ = some u := fun j u hc => (B8.cell (p := ⟨tb, j, none⟩) (World.block_lt_of_cell? _ _ hc)).trans hc
                  have s8 := And.intro (c8' _ _ t0) (c8' _ _ t1)
                  refine hK _ _ s8 ?_
                  clear hK
                  refine wpAnyH_do 7 187 rfl rfl (by kernel_rfl) (by kernel_rfl) (by kernel_rfl) (fun _ _ _ _ _ h => h) (by kernel_rfl) (fun W hS => by (obtain ⟨s1, s2⟩ := hS); go_simp; try with_reducible rfl) s8 ?_
                  simp only [List.setIfInBounds_toArray, List.set_cons_succ, List.set_cons_zero]
                  have RV8 : Rv w8 (.slice ra rl rc) (resL ab).length ((resL ab).map vB) := by
                    have h1 := N8.1
                    rw [List.length_map] at h1
                    exact Rv.of_own h1
                  have hvo : Off (.slice ra rl rc) Z7 := fun b hb hz => by
                    have h1 := (N8.1.lt b hb).1
                    have h2 := HM7.out.pz.zl b hz
                    have h3 : w7.drew.heap.size = w7.heap.size := rfl
                    omega
                  have HD := Bx.mk (sm_answerR aid 0 an (.slice ra rl rc) (resL ab) (T4 : Int) w8 (HM7.out.later B8) HLT.out HAN.out.1 (by have := HAN.out.2; omega) RV8 hvo (Int.le_refl _))
                  refine wpAnyH_one 9 rfl (by kernel_rfl) (by kernel_rfl) (fun K hK => ?_)
                  go_simp
                  refine HD.out.mono ?_
                  rintro e w9 ⟨f9, r9, Z9, rfl, M9, S9⟩
                  have s9 : w9.cell? ⟨tb, 0, none⟩ = some (.int .i64 aid) ∧ w9.cell? ⟨tb, 1, none⟩ = some (.slice ba bl bc) := by
                    have h1 := S9.block tb (World.block_lt_of_cell? _ _ s8.1) HNZ.out
                    refine ⟨?_, ?_⟩
                    · rw [← s8.1]; unfold World.cell?; rw [h1]
                    · rw [← s8.2]; unfold World.cell?; rw [h1]
                  refine hK _ _ s9 ?_
                  clear hK
                  refine wpAnyH_done (by kernel_rfl) ?_ _
                  have HF2 := Bx.mk (show SamF w w9 p Z9 _ bs (.slice la m2 lc) late (T4 : Int) (n + 1) (c + 1) from ⟨M9, liv_answer HL.out _ _ _ _ _, by
                    have h1 := HRD.out rfl (resL ab) (by have := resL_len ab; omega)
                    have h2 := HO.out
                    omega⟩)
                  clear M9 S9 HD s9 s8 s0 t0 t1 B8 c8' N8 RV8 RV7 hvo HM7 HO7 HLT HAN HL HRD HO hbl20
                  go_wp2_with fail
                  go_roundw
                  case rel => exact ⟨c + 1, T4, n + 1, Z9, _, rfl, by simp, by omega, by omega, by omega, HF2⟩
                  case measure => simp [intOf]; omega
              · have hc12I : ¬ (c : Int) < 12 := by omega
                have hop : opn D6 D6.ids = [] := List.eq_nil_of_length_eq_zero (by have := HF.out.o; omega)
                have HFIN := Bx.mk (HF.out.m.sam.fin hop)
                have HDN := Bx.mk (pz_done W3 HF.out.m.pz)
                have HZ := Bx.mk HF.out.m
                clear HF
                go_upto_region 44 with fail
                clear hc12I hc12 hc hn hT3
                go_wp2_with fail
                refine HDN.out.mono ?_
                rintro e w6 ⟨v6, xs, rfl, hxs, hr, B6⟩
                have hfx : xs.map (fun x => (x.1.task, x.1.body)) = bs.mapIdx (fun k b => (3 * (k : Int), resL b)) := by
                  rw [← HFIN.out, ← hxs, List.map_map]
                  rfl
                have hxl : xs.length = i := by
                  have h1 := congrArg List.length hfx
                  rw [List.length_map, List.length_mapIdx, HBL.out] at h1
                  exact h1
                have HOP : Bx (Calls Try.prog 30 #[.pointer (some ⟨p, 0, none⟩)] w6 fun e w' => ∃ v, e = .returned v ∧ w'.ownsRow w6.heap.size 3 1 v 0 [] ∧ Below w6.heap.size w6 w') := ⟨by
                  have h := pz_open w6 (HZ.out.pz.later B6)
                  rw [hop] at h
                  exact h⟩
                have hro := hr.own
                obtain ⟨da, dc, rfl⟩ := own_isSlice hro
                rw [hxl] at hr ⊢
                have HFX := Bx.mk hfx
                have HXL := Bx.mk hxl
                have HRR := Bx.mk (And.intro hr (bel HZ.out.bel B6))
                clear hfx hxl hr hro hop HFIN HDN HZ hxs B6
                go_wp2_with fail
                refine HOP.out.mono ?_
                rintro e w7 ⟨v7, rfl, O7, B7⟩
                obtain ⟨oa, oc, rfl⟩ := own_isSlice O7
                have HL := Bx.mk (And.intro (HRR.out.1.laterS B7) (bel HRR.out.2 B7))
                clear O7 HOP HRR B7
                go_wp2_with fail
                go_loopw [30, 31] (fun u _ W => ∃ q : Nat, u = .int .i64 (q : Int) ∧ q ≤ i ∧ Bx (RepsE W W3.heap.size W3.heap.size (.slice da i dc) xs ∧ Below w.heap.size w W)) (fun u _ _ => i - (intOf u).toNat)
                case atStart => exact ⟨0, rfl, Nat.zero_le _, HL⟩
                case round =>
                  clear HL
                  rename World => W
                  obtain ⟨q, rfl, hq, HL⟩ := hrel
                  by_cases hlt : q < i
                  · have hltI : (q : Int) < (i : Int) := by omega
                    obtain ⟨x, hx⟩ : ∃ x, l[q]? = some x := ⟨_, List.getElem?_eq_getElem (by have := HN.out; omega)⟩
                    have hbx := bs_at hx (by omega)
                    rw [HBS.out] at hbx
                    have hxr := HX.out x (List.mem_of_getElem? hx)
                    have hR := HV.out.below HL.out.2
                    rw [HN.out] at hR
                    obtain ⟨gb, off, e1, hcx⟩ := rvAtS hR hx
                    subst e1
                    obtain ⟨y, hy⟩ : ∃ y, xs[q]? = some y := ⟨_, List.getElem?_eq_getElem (by rw [HXL.out]; exact hlt)⟩
                    have hyf : (y.1.task, y.1.body) = (3 * (q : Int), resL (zvar x)) := by
                      have h1 := congrArg (fun z => z[q]?) HFX.out
                      simp only [List.getElem?_map, List.getElem?_mapIdx, hy, hbx, Option.map_some, Option.some.injEq] at h1
                      exact h1
                    injection hyf with hyt hyb
                    obtain ⟨g, c2, hv2, hc2, y0, y1, y2, y3⟩ := HL.out.1.atS hy
                    rw [HXL.out] at hv2 hc2
                    injection hv2 with e1 e2 e3
                    subst e1 e3
                    rw [hyt] at y0
                    have hye := HL.out.1.each y (List.mem_of_getElem? hy)
                    rw [hyb] at hye
                    obtain ⟨ya, yc, hyv⟩ := own_isSlice hye
                    rw [hyv] at y3 hye
                    have W0 := Wr.new34 W
                    have A0 := (Below.refl W.heap.size W).alloc (Nat.le_refl _) (.cells #[.slice none 0 0] 46)
                    have HI := Bx.mk (wint_any W.heap.size (.slice none 0 0) [] x _ W0 hxr.1 hxr.2 (by decide))
                    have HAW := Bx.mk (And.intro W0 A0)
                    have hcx := (A0.cell (p := ⟨gb, off + q, none⟩) (World.block_lt_of_cell? _ _ hcx)).trans hcx
                    have hiN : (q : Int) < (N : Int) := by omega
                    have HY := Bx.mk (And.intro y0 (And.intro y3 hye))
                    clear hx hbx hxr hR W0 A0 y1 y2 y0 y3 hye hyv hyt hyb hy e2
                    go_wp2_with fail
                    refine HI.out.mono ?_
                    rintro e w8 ⟨v8, rfl, W8, S8⟩
                    rw [List.nil_append] at W8
                    have B8 := S8.bel34 HAW.out.1 HAW.out.2 (Nat.le_refl _)
                    have s1 := (B8.cell (p := ⟨g, q * 4, none⟩) (World.block_lt_of_cell? _ _ HY.out.1)).trans HY.out.1
                    have s2 := (B8.cell (p := ⟨g, q * 4 + 3, none⟩) (World.block_lt_of_cell? _ _ HY.out.2.1)).trans HY.out.2.1
                    have hY8 := own_below HY.out.2.2 B8
                    have HD := Bx.mk (wdone_any _ v8 (zvar x) w8.drew (show Wr w8.drew W.heap.size v8 (zvar x) from W8) (by have := zvar_len34 x; omega))
                    have HB8 := Bx.mk B8
                    have HY8 := Bx.mk hY8
                    clear W8 S8 B8 HI HAW hcx hY8 HY
                    go_upto_region 52 with fail
                    have s0 : w8.drew.cell? ⟨g, q * 4, none⟩ = some (.int .i64 (3 * (q : Int))) ∧ w8.drew.cell? ⟨g, q * 4 + 3, none⟩ = some (.slice ya (resL (zvar x)).length yc) := ⟨s1, s2⟩
                    refine wp_region_held_drew (S := fun W => W.cell? ⟨g, q * 4, none⟩ = some (.int .i64 (3 * (q : Int))) ∧ W.cell? ⟨g, q * 4 + 3, none⟩ = some (.slice ya (resL (zvar x)).length yc)) (by kernel_rfl) s0 (fun _ => ?_)
                    refine wpAnyH_do 0 212 rfl rfl (by kernel_rfl) (by kernel_rfl) (by kernel_rfl) (fun _ _ _ _ _ h => h) (by kernel_rfl) (fun W hS => by (obtain ⟨s1, s2⟩ := hS); go_simp; try with_reducible rfl) s0 ?_
                    simp only [List.setIfInBounds_toArray, List.set_cons_succ, List.set_cons_zero]
                    refine wpAnyH_do 1 213 rfl rfl (by kernel_rfl) (by kernel_rfl) (by kernel_rfl) (fun _ _ _ _ _ h => h) (by kernel_rfl) (fun W hS => by (obtain ⟨s1, s2⟩ := hS); go_simp; try with_reducible rfl) s0 ?_
                    simp only [List.setIfInBounds_toArray, List.set_cons_succ, List.set_cons_zero]
                    refine wpAnyH_do 2 214 rfl rfl (by kernel_rfl) (by kernel_rfl) (by kernel_rfl) (fun _ _ _ _ _ h => h) (by kernel_rfl) (fun W hS => by (obtain ⟨s1, s2⟩ := hS); go_simp; try with_reducible rfl) s0 ?_
                    simp only [List.setIfInBounds_toArray, List.set_cons_succ, List.set_cons_zero]
                    refine wpAnyH_do 3 215 rfl rfl (by kernel_rfl) (by kernel_rfl) (by kernel_rfl) (fun _ _ _ _ _ h => h) (by kernel_rfl) (fun W hS => by (obtain ⟨s1, s2⟩ := hS); go_simp; try with_reducible rfl) s0 ?_
                    simp only [List.setIfInBounds_toArray, List.set_cons_succ, List.set_cons_zero]
                    refine wpAnyH_do 4 216 rfl rfl (by kernel_rfl) (by kernel_rfl) (by kernel_rfl) (fun _ _ _ _ _ h => h) (by kernel_rfl) (fun W hS => by (obtain ⟨s1, s2⟩ := hS); go_simp; try with_reducible rfl) s0 ?_
                    simp only [List.setIfInBounds_toArray, List.set_cons_succ, List.set_cons_zero]
                    refine wpAnyH_do 5 217 rfl rfl (by kernel_rfl) (by kernel_rfl) (by kernel_rfl) (fun _ _ _ _ _ h => h) (by kernel_rfl) (fun W hS => by (obtain ⟨s1, s2⟩ := hS); go_simp; try with_reducible rfl) s0 ?_
                    simp only [List.setIfInBounds_toArray, List.set_cons_succ, List.set_cons_zero]
                    refine wpAnyH_do (v := .int .i64 (3 * (q : Int))) 6 218 rfl rfl (by kernel_rfl) (by kernel_rfl) (by kernel_rfl) (fun _ _ _ _ _ h => h) (by kernel_rfl) (fun W hS => by (go_simp; rw [IntKind.wrap_i64]; omega)) s0 ?_
                    simp only [List.setIfInBounds_toArray, List.set_cons_succ, List.set_cons_zero]
                    refine wpAnyH_do (v := .bool false) 7 219 rfl rfl (by kernel_rfl) (by kernel_rfl) (by kernel_rfl) (fun _ _ _ _ _ h => h) (by kernel_rfl) (fun W hS => by (go_simp; try with_reducible rfl)) s0 ?_
                    simp only [List.setIfInBounds_toArray, List.set_cons_succ, List.set_cons_zero]
                    refine wpAnyH_do 8 220 rfl rfl (by kernel_rfl) (by kernel_rfl) (by kernel_rfl) (fun _ _ _ _ _ h => h) (by kernel_rfl) (fun W hS => by (obtain ⟨s1, s2⟩ := hS); go_simp; try with_reducible rfl) s0 ?_
                    simp only [List.setIfInBounds_toArray, List.set_cons_succ, List.set_cons_zero]
                    refine wpAnyH_do 9 221 rfl rfl (by kernel_rfl) (by kernel_rfl) (by kernel_rfl) (fun _ _ _ _ _ h => h) (by kernel_rfl) (fun W hS => by (obtain ⟨s1, s2⟩ := hS); go_simp; try with_reducible rfl) s0 ?_
                    simp only [List.setIfInBounds_toArray, List.set_cons_succ, List.set_cons_zero]
                    refine wpAnyH_do 10 222 rfl rfl (by kernel_rfl) (by kernel_rfl) (by kernel_rfl) (fun _ _ _ _ _ h => h) (by kernel_rfl) (fun W hS => by (obtain ⟨s1, s2⟩ := hS); go_simp; try with_reducible rfl) s0 ?_
                    simp only [List.setIfInBounds_toArray, List.set_cons_succ, List.set_cons_zero]
                    refine wpAnyH_do 11 223 rfl rfl (by kernel_rfl) (by kernel_rfl) (by kernel_rfl) (fun _ _ _ _ _ h => h) (by kernel_rfl) (fun W hS => by (obtain ⟨s1, s2⟩ := hS); go_simp; try with_reducible rfl) s0 ?_
                    simp only [List.setIfInBounds_toArray, List.set_cons_succ, List.set_cons_zero]
                    refine wpAnyH_do 12 224 rfl rfl (by kernel_rfl) (by kernel_rfl) (by kernel_rfl) (fun _ _ _ _ _ h => h) (by kernel_rfl) (fun W hS => by (obtain ⟨s1, s2⟩ := hS); go_simp; try with_reducible rfl) s0 ?_
                    simp only [List.setIfInBounds_toArray, List.set_cons_succ, List.set_cons_zero]
                    refine wpAnyH_do 13 225 rfl rfl (by kernel_rfl) (by kernel_rfl) (by kernel_rfl) (fun _ _ _ _ _ h => h) (by kernel_rfl) (fun W hS => by (obtain ⟨s1, s2⟩ := hS); go_simp; try with_reducible rfl) s0 ?_
                    simp only [List.setIfInBounds_toArray, List.set_cons_succ, List.set_cons_zero]
                    refine wpAnyH_one 14 rfl (by kernel_rfl) (by kernel_rfl) (fun K hK => ?_)
                    go_simp
                    refine HD.out.mono ?_
                    rintro e w9 ⟨v9, rfl, M9⟩
                    obtain ⟨k9, a9, c9, rfl⟩ := own_shape M9.1
                    have B9 : Below w8.heap.size w8 w9 := (Below.refl w8.heap.size w8).drew.trans (M9.2.mono (Nat.le_refl _))
                    have s9 := And.intro ((B9.cell (p := ⟨g, q * 4, none⟩) (World.block_lt_of_cell? _ _ s1)).trans s1) ((B9.cell (p := ⟨g, q * 4 + 3, none⟩) (World.block_lt_of_cell? _ _ s2)).trans s2)
                    refine hK _ _ s9 ?_
                    clear hK
                    refine wpAnyH_one 15 rfl (by kernel_rfl) (by kernel_rfl) (fun K hK => ?_)
                    go_simp
                    have R9 : Rv w9 (.slice a9 k9 c9) (zvar x).length ((zvar x).map vB) := by
                      have h1 := M9.rv
                      rw [List.length_map] at h1
                      exact h1
                    refine (result_any (.slice a9 k9 c9) (zvar x) w9 R9 (by have := zvar_len34 x; omega)).mono ?_
                    rintro e w10 ⟨v10, rfl, M10⟩
                    obtain ⟨k10, a10, c10, rfl⟩ := own_shape M10.1
                    have s10 := And.intro ((M10.2.cell (p := ⟨g, q * 4, none⟩) (World.block_lt_of_cell? _ _ s9.1)).trans s9.1) ((M10.2.cell (p := ⟨g, q * 4 + 3, none⟩) (World.block_lt_of_cell? _ _ s9.2)).trans s9.2)
                    refine hK _ _ s10 ?_
                    clear hK
                    refine wpAnyH_one 16 rfl (by kernel_rfl) (by kernel_rfl) (fun K hK => ?_)
                    go_simp
                    have R10 : Rv w10 (.slice a10 k10 c10) (resL (zvar x)).length ((resL (zvar x)).map vB) := by
                      have h1 := M10.rv
                      rw [List.length_map] at h1
                      exact h1
                    have RY := Rv.of_own (own_below (own_below HY8.out B9) M10.2)
                    refine (sameBytes_refl _ _ (resL (zvar x)) w10 RY R10).mono ?_
                    rintro e w11 ⟨rfl, nn, rfl⟩
                    have s11 : (w10.drewN nn).cell? ⟨g, q * 4, none⟩ = some (.int .i64 (3 * (q : Int))) ∧ (w10.drewN nn).cell? ⟨g, q * 4 + 3, none⟩ = some (.slice ya (resL (zvar x)).length yc) := s10
                    refine hK _ _ s11 ?_
                    clear hK
                    refine wpAnyH_do 17 229 rfl rfl (by kernel_rfl) (by kernel_rfl) (by kernel_rfl) (fun _ _ _ _ _ h => h) (by kernel_rfl) (fun W hS => by (obtain ⟨s1, s2⟩ := hS); go_simp; try with_reducible rfl) s11 ?_
                    simp only [List.setIfInBounds_toArray, List.set_cons_succ, List.set_cons_zero]
                    refine wpAnyH_do 18 230 rfl rfl (by kernel_rfl) (by kernel_rfl) (by kernel_rfl) (fun _ _ _ _ _ h => h) (by kernel_rfl) (fun W hS => by (obtain ⟨s1, s2⟩ := hS); go_simp; try with_reducible rfl) s11 ?_
                    simp only [List.setIfInBounds_toArray, List.set_cons_succ, List.set_cons_zero]
                    refine wpAnyH_done (by kernel_rfl) ?_ _
                    have BA := belD (bel (bel HB8.out B9) M10.2) nn
                    have HL2 := Bx.mk (And.intro (HL.out.1.laterS BA) (bel HL.out.2 BA))
                    clear s0 s1 s2 s9 s10 s11 R9 R10 RY M9 M10 B9 BA HL HB8 HY8 HD
                    go_wp2_with fail
                    go_roundw
                    case rel => exact ⟨q + 1, by simp, by omega, HL2⟩
                    case measure => simp [intOf]; omega
                  · have hltI : ¬ (q : Int) < (i : Int) := by omega
                    have HLV := Bx.mk (lives34_any W)
                    go_wp2_with fail
                    refine HLV.out.mono ?_
                    rintro e w8 ⟨rfl, B8⟩
                    have HE := Bx.mk (bel HL.out.2 B8)
                    clear HLV B8 HL
                    go_wp2_with fail
                    go_ret
                    exact ⟨rfl, HE.out⟩
end Go.Proofs.Ytfdacckkdjpjhaa
