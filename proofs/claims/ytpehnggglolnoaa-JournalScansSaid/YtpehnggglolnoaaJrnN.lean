/- The law JournalFrames. -/
import Derived.Test.YtpehnggglolnoaaJrnM
namespace Go.Proofs.Ytpehnggglolnoaa
open Go.RowKit

/-- The first lists of a list. -/
theorem LsB.firsts {w : World} {ao : Option Addr} {n cap : Nat} {L M : List (List UInt8)} (h : LsB w (.slice ao n cap) (L ++ M)) (k : Nat) (hk : k = L.length) : LsB w (.slice ao k cap) L := by
  subst hk
  obtain ⟨us, hr, hl, hi⟩ := h
  rw [List.length_append] at hr hl
  obtain ⟨a', c', e1, _, H⟩ := hr.firsts L.length (by omega)
  cases e1
  refine ⟨us.take L.length, H _ rfl, by rw [List.length_take]; omega, fun i hlt u hu => ?_⟩
  rw [List.getElem?_take_of_lt hlt] at hu
  have := hi i (by rw [List.length_append]; omega) u hu
  rwa [List.getElem_append_left hlt] at this
theorem framesM_len (k : Nat) (xs : List (List UInt8)) (m : Nat) (h : ∀ x ∈ xs, x.length ≤ m) : (framesM k xs).length ≤ xs.length * (m + 50) := by
  induction xs generalizing k with
  | nil => simp [framesM]
  | cons x xs ih =>
    have h1 := ih (k + 1) (fun y hy => h y (by simp [hy]))
    have h2 := h x (by simp)
    have h3 : (frameM (k : Int) x).length ≤ x.length + 50 := by
      have a := uvar_len (coreM (k : Int) x).length
      have b := uvar_len (bytesB frameL (coreM (k : Int) x)).toNat
      have c : (zvar (k : Int)).length ≤ 10 := uvar_len _
      have d := uvar_len x.length
      rw [frameM, rawW]
      simp only [List.length_append]
      have e : (coreM (k : Int) x).length = (zvar (k : Int)).length + ((uvar x.length).length + x.length) := by rw [coreM, rawW]; simp only [List.length_append]
      omega
    rw [framesM, List.length_append, List.length_cons, Nat.add_mul]
    omega

set_option maxRecDepth 20000 in
set_option maxHeartbeats 2000000 in
theorem law_JournalFrames (u b r : Value) (l : List Int) (bs rs : List UInt8) (n : Int) (w : World) (hu : Rv w u l.length (l.map (Value.int .i64))) (hb : Rv w b bs.length (bs.map vB)) (hr : Rv w r rs.length (rs.map vB))
    (hl : ∀ x ∈ l, -9223372036854775808 ≤ x ∧ x ≤ 9223372036854775807) (hn : -9223372036854775808 ≤ n ∧ n ≤ 9223372036854775807) :
    Calls Try.prog 4 #[u, .int .i64 n, b, r] w (RetT w) := by
  have HX := Lib.hid hl
  have HN := Lib.hid hn
  clear hl hn
  go_enter Try.func4, Try.ntmps4
  go_wp2_with fail
  refine (few_some b bs 200 (by omega) _ hb).mono ?_
  rintro e w1 ⟨v1, own, _, ho, rfl, M1, R1⟩
  have B1 := M1.2
  have hlow1 := M1.low
  obtain ⟨a1, c1, e1, _, _⟩ := R1.opened
  subst e1
  clear M1
  go_wp2_with fail
  refine (frame_any _ own n _ R1 (by omega) HN.out).mono ?_
  rintro e w2 ⟨v2, rfl, M2⟩
  have B2 := bel B1 M2.2
  have R2 := R1.below M2.2
  have Q2 := M2.rv
  rw [List.length_map] at Q2
  have hlow2 := hlow1.mono M2.2.size
  clear M2 R1 B1 hlow1
  go_wp2_with fail
  refine (rframe_any _ own n _ R2 (by omega) HN.out).mono ?_
  rintro e w3 ⟨v3, rfl, M3⟩
  have B3 := bel B2 M3.2
  have R3 := R2.below M3.2
  have Q3 := Q2.below M3.2
  have P3 := M3.rv
  rw [List.length_map] at P3
  have hlow3 := hlow2.mono M3.2.size
  clear M3 R2 Q2 B2 hlow2
  go_wp2_with fail
  refine (sameBytes_refl _ _ _ _ Q3 P3).mono ?_
  rintro e w4 ⟨rfl, n4, h4⟩
  have B4 : Below w.heap.size w w4 := by rw [h4]; exact belD B3 n4
  have R4 : Rv w4 (.slice a1 own.length c1) own.length (own.map vB) := by rw [h4]; exact R3
  have hlow4 : Low w4.heap.size (.slice a1 own.length c1) := by rw [h4]; exact hlow3
  clear h4 B3 R3 Q3 P3 hlow3
  go_wp2_with fail
  refine (records_any u l _ (hu.below B4) HX.out).mono ?_
  rintro e w5 ⟨v5, us5, rfl, L5, C5⟩
  have B5 := bel B4 C5
  have R5 := R4.below C5
  have hn5 := recM_len l
  have hm5 := recM_mem l
  generalize recM l = L at *
  obtain ⟨k5, a5, c5, rfl⟩ := own_shape L5.own
  obtain rfl : k5 = L.length := own_k L5.own
  have hfar : ∀ g, (Value.slice a1 own.length c1).ownBlock = some g → (Value.slice a5 L.length c5).ownBlock ≠ some g := fun g hg hg2 => by
    have h1 := hlow4 g hg
    have h2 := (L5.own.lt g hg2).1
    omega
  have hA := (Below.refl _ w5).alloc (Nat.le_refl _) (.cells #[.slice a1 own.length c1] 49)
  have LA := L5.below hA
  have RA := R5.below hA
  have BA := bel B5 hA
  have hlw := hlow4.mono (Nat.le_trans C5.size hA.size)
  have hw4 := B4.size
  have hLb := LA.based hw4
  have hOb := hLb.own
  clear L5 R5 B5 B4 C5 LA hlow4
  go_wp2_with (at_builtin; go_loud (refine wpList_app2 _ rfl _ _ rfl Try.elS w.heap.size (.slice a5 L.length c5) L.length us5 rfl hOb (.slice (some ⟨w5.heap.size, 0, none⟩) 1 1) 1 [.slice a1 own.length c1] rfl (rv_litH _ [_] _ 1 (by unfold maxLen; omega) _ rfl) rfl (ones1 _ rfl) (by omega) BA.size ?_; intro v6 w6 O6 G6 N6))
  have L6 := hLb.app RA rfl hlw hfar rfl rfl O6 G6 N6
  have B6 := BA.grown G6 BA.size (fun g hg => (hOb.lt g hg).1)
  have hX1 : (L ++ [own]).length ≤ 7 := by rw [List.length_append, List.length_singleton]; omega
  have hX2 : ∀ x ∈ L ++ [own], x.length ≤ 200 := by
    intro x hx
    rcases List.mem_append.1 hx with hx | hx
    · have := hm5 x hx; omega
    · rw [List.mem_singleton.1 hx]; exact ho
  clear hLb RA hlw hfar O6 G6 N6 BA hOb hA hw4 hm5 hn5
  generalize L ++ [own] = X at *
  generalize us5 ++ [Value.slice a1 own.length c1] = us6 at *
  obtain ⟨k6, a6, c6, rfl⟩ := own_shape L6.own
  obtain rfl : k6 = X.length := own_k L6.own
  have HX2 := Lib.hid hX2
  clear hX2
  go_wp2_with fail
  go_loopw [11, 12] (fun av iv wr => ∃ (i : Nat) (xs : List UInt8), iv = .int .i64 (i : Int) ∧ i ≤ X.length ∧ Hid (xs = framesM 0 (X.take i)) ∧ xs.length ≤ i * 300 ∧ wr.ownsRow w6.heap.size 5 1 av xs.length (xs.map vB) ∧ Below w6.heap.size w6 wr) (fun _ iv _ => X.length - (intOf iv).toNat)
  case atStart => exact ⟨0, [], rfl, Nat.zero_le _, rfl, Nat.zero_le _, World.ownsRow_nil _ _ _ _, Below.refl _ _⟩
  case round =>
    obtain ⟨i, xs, rfl, hi, HS, hxl, hown, hB⟩ := hrel
    have hsz := hB.size
    obtain ⟨k7, a7, c7, rfl⟩ := own_shape hown
    obtain rfl : k7 = xs.length := own_k hown
    by_cases hlt : i < X.length
    · obtain ⟨b6, o6, cc, uu, e6, hc6, hr6⟩ := (L6.ls.below hB).at i hlt
      cases e6
      have hsn : framesM 0 (X.take (i + 1)) = xs ++ frameM (i : Int) X[i] := by
        rw [List.take_succ_eq_append_getElem hlt, framesM_snoc, ← HS.out, List.length_take, Nat.min_eq_left (by omega), Nat.zero_add]
      have hxi := HX2.out X[i] (List.getElem_mem hlt)
      generalize X[i] = x at *
      obtain ⟨au, cu, rfl, _, _⟩ := hr6.opened
      have hfl : (frameM (i : Int) x).length ≤ 300 := by
        have := framesM_len i [x] 200 (fun y hy => by rw [List.mem_singleton.1 hy]; exact hxi)
        rw [framesM, framesM, List.append_nil] at this
        simp at this
        omega
      have HSN := Lib.hid hsn
      clear hsn HS
      go_wp2_with fail
      refine (frame_any _ x (i : Int) _ hr6 (by omega) (by omega)).mono ?_
      rintro e w7 ⟨v7, rfl, M7⟩
      have O7 := own_below hown M7.2
      have B7 := bel hB M7.2
      have R7 := M7.rv
      rw [List.length_map] at R7
      generalize frameM (i : Int) x = fr at *
      obtain ⟨a8, c8, rfl, _, _⟩ := R7.opened
      clear M7 hown hc6 hr6 hB
      go_wp2_with (at_builtin; go_loud (refine wpList_app _ rfl _ _ rfl Try.elB w6.heap.size (.slice a7 xs.length c7) xs.length _ rfl O7 (.slice a8 fr.length c8) fr.length _ rfl R7 (by simp) (ones_B _) (by omega) B7.size ?_; intro v9 w9 O9 G9 _))
      go_roundw
      case rel => exact ⟨i + 1, xs ++ fr, by go_num, by omega, HSN.out.symm, by rw [List.length_append]; omega, by rw [List.length_append, List.map_append]; exact O9, B7.grown G9 B7.size (fun g hg => (O7.lt g hg).1)⟩
      case measure => simp [intOf]; omega
    · obtain rfl : i = X.length := by omega
      have hS := HS.out
      rw [List.take_length] at hS
      have HS2 := Lib.hid hS
      clear hS HS
      have LX := L6.ls.below hB
      have D6 := bel B6 hB
      go_wp2_with fail
      refine (few_some r rs 30 (by omega) _ (hr.below D6)).mono ?_
      rintro e w8 ⟨v8, ts, _, ht, rfl, M8, R8⟩
      have D8 := bel D6 M8.2
      have O8 := own_below hown M8.2
      have hB8 := bel hB M8.2
      obtain ⟨a8, c8, rfl, _, _⟩ := R8.opened
      clear M8 D6 hown hB LX
      go_wp2_with (at_builtin; go_loud (refine wpList_app _ rfl _ _ rfl Try.elB w6.heap.size (.slice a7 xs.length c7) xs.length _ rfl O8 (.slice a8 ts.length c8) ts.length _ rfl R8 (by simp) (ones_B _) (by omega) hB8.size ?_; intro v9 w9 O9 G9 _))
      have hB9 := hB8.grown G9 hB8.size (fun g hg => (O8.lt g hg).1)
      have D9 := bel B6 hB9
      have LX9 := L6.ls.below hB9
      have R9 : Rv w9 v9 (xs ++ ts).length ((xs ++ ts).map vB) := by
        have := Rv.of_own O9
        rw [List.map_append, List.length_append]
        exact this
      have hlow9 : Low w9.heap.size v9 := fun g hg => (O9.lt g hg).2
      have hal : (xs ++ ts).length ≤ 10000 := by rw [List.length_append]; omega
      obtain ⟨G, K, hGX, hXT, hKx, hKl, hsc⟩ : ∃ (G : List (List UInt8)) (K : Nat), Hid (∃ T, G = X ++ T) ∧ X.length ≤ G.length ∧ xs.length ≤ K ∧ K ≤ 10000 ∧ scanL (xs ++ ts) = (G, K) := by
        have hj := scanJ_frames X 0 ts (framesM 0 X ++ ts).length (Nat.le_refl _) (by omega) (by rw [← HS2.out]; omega)
        have hk := (scanJ_len (xs ++ ts).length 0 (xs ++ ts)).1
        rw [← HS2.out] at hj
        refine ⟨_, _, ⟨_, rfl⟩, ?_, ?_, ?_, hj⟩
        · rw [List.length_append]; omega
        · omega
        · rw [hj] at hk
          simp only at hk
          omega
      have hS1 : ∀ v w1, Rv w1 v (xs ++ ts).length ((xs ++ ts).map vB) → Calls Try.prog 29 #[v] w1 (fun e w' => ∃ v us, e = .returned (.tuple #[v, .int .i64 (K : Int)]) ∧ LsO w' w1.heap.size v us G ∧ Below w1.heap.size w1 w') := by
        intro v w1 h
        have := scan_any v (xs ++ ts) w1 h (by omega)
        unfold ScanPost at this
        rw [hsc] at this
        exact this
      have hS2 : ∀ v w1, Rv w1 v (xs ++ ts).length ((xs ++ ts).map vB) → Low w1.heap.size v → Calls Try.prog 30 #[v] w1 (fun e w' => ∃ v us, e = .returned (.tuple #[v, .int .i64 (K : Int)]) ∧ LsO w' w1.heap.size v us G ∧ Below w1.heap.size w1 w') := by
        intro v w1 h h2
        have := rscan_any v (xs ++ ts) w1 h h2 (by omega)
        unfold ScanPost at this
        rw [hsc] at this
        exact this
      have HS1 := Lib.hid hS1
      have HS3 := Lib.hid hS2
      clear hS1 hS2 hsc O8 O9 G9 hB8 hB9 D8 hal R8 HS2
      refine (HS1.out _ _ R9).mono ?_
      rintro e w10 ⟨v10, us10, rfl, L10, C10⟩
      have D10 := bel D9 C10
      have R10 := R9.below C10
      have LX10 := LX9.below C10
      have hlow10 := hlow9.mono C10.size
      obtain ⟨k10, a10, c10, rfl⟩ := own_shape L10.own
      obtain rfl : k10 = G.length := own_k L10.own
      clear D9 R9 LX9 hlow9 HS1 C10
      go_wp2_with fail
      refine (HS3.out _ _ R10 hlow10).mono ?_
      rintro e w11 ⟨v11, us11, rfl, L11, C11⟩
      have D11 := bel D10 C11
      have LX11 := LX10.below C11
      have L10b := L10.below C11
      have Q10 := L10b.ls
      have Q11 := L11.ls
      obtain ⟨k11, a11, c11, rfl⟩ := own_shape L11.own
      obtain rfl : k11 = G.length := own_k L11.own
      have hcc := L10b.own
      have hcap10 : G.length ≤ c10 := by obtain ⟨_, _, e, h, _⟩ := (Rv.of_own hcc).opened; cases e; exact h
      clear D10 R10 LX10 hlow10 HS3 C11 L10 L10b L11 hcc
      have hk1 : decide ((xs.length : Int) ≤ (K : Int)) = true := decide_eq_true (by omega)
      have hk2 : decide ((X.length : Int) ≤ (G.length : Int)) = true := decide_eq_true (by omega)
      have hk3 : (X.length : Int) ≤ (c10 : Int) := by omega
      have hk4 : (0 : Int) ≤ (X.length : Int) := by omega
      have hSL := fun u v w1 h1 h2 => sameLists_refl u v G w1 h1 h2
      have hF := fun w1 (h : LsB w1 (.slice a10 G.length c10) G) => (show LsB w1 (.slice a10 X.length c10) X by obtain ⟨T, hT⟩ := hGX.out; exact LsB.firsts (M := T) (n := G.length) (hT ▸ h) X.length rfl)
      have HSL := Lib.hid hSL
      have HF := Lib.hid hF
      have hLX : ∀ w1, LsB w1 (.slice a10 G.length c10) G → LsB w1 (.slice a10 X.length c10) X := HF.out
      have HQ10 := Lib.hid Q10
      have HQ11 := Lib.hid Q11
      have HLX := Lib.hid hLX
      clear hSL hF hLX Q10 Q11 HF
      go_wp2_with fail
      refine (HSL.out _ _ _ HQ10.out HQ11.out).mono ?_
      rintro e w12 ⟨rfl, n12, h12⟩
      have D12 : Below w.heap.size w w12 := by rw [h12]; exact belD D11 n12
      have Q12 : LsB w12 (.slice a10 X.length c10) X := by rw [h12]; exact (HLX.out _ HQ10.out).drewN n12
      have X12 : LsB w12 (.slice a6 X.length c6) X := by rw [h12]; exact LX11.drewN n12
      clear h12 D11 LX11 HQ10 HQ11 HLX HSL
      go_wp2_with fail
      refine (sameLists_refl _ _ X _ Q12 X12).mono ?_
      rintro e w13 ⟨rfl, n13, h13⟩
      have D13 : Below w.heap.size w w13 := by rw [h13]; exact belD D12 n13
      clear h13 D12 Q12 X12
      go_wp2_with fail
      refine (lives31_any w13).mono ?_
      rintro e w14 ⟨rfl, C14⟩
      go_wp2_with fail
      go_ret
      exact ⟨rfl, bel D13 C14⟩
end Go.Proofs.Ytpehnggglolnoaa
