/- law02: WirePrefix. -/
import Derived.Test.YtofgcoapbocneaaReadP
import Derived.Test.YtofgcoapbocneaaLaw2d
namespace Go.Proofs.Ytofgcoapbocneaa
open Go.RowKit

theorem few_big (v : Value) (xs : List UInt8) (n : Nat) (hn : n ≤ 100000000) (w : World) (hv : Rv w v xs.length (xs.map vB)) :
    Calls Try.prog 20 #[v, .int .i64 n] w (RetMade w 5 ((xs.take n).map vB)) := by
  have hm := hv.len
  obtain ⟨ao, cap, rfl, hc, HY⟩ := hv.firsts (min n xs.length) (by omega)
  unfold maxLen at hm
  rw [show (xs.map vB).take (min n xs.length) = (xs.take n).map vB from by rw [List.map_take, ← List.length_map vB, ← List.take_eq_take_min]] at HY
  have hl : (xs.take n).length = min n xs.length := List.length_take
  have HL := Lib.hid hl
  clear hl
  go_enter Try.func20, Try.ntmps20
  go_wp2_with (at_builtin; refine wpList_app _ rfl _ _ rfl Try.elB w.heap.size (.slice none 0 0) 0 [] rfl (World.ownsRow_nil _ _ _ _) _ _ _ rfl (HY _ (by split <;> omega)) (by have := HL.out; rw [List.length_map]; split <;> omega) (ones_B _) (by split <;> omega) (Nat.le_refl _) ?_; intro v' w' hown hg _)
  all_goals
    go_ret
    exact retMade hown (by simp) ((Below.refl _ _).grown hg (Nat.le_refl _) (fun k h => by cases h))

theorem enc_len2 (m : V) (h : m.Can) : m.enc.length ≤ 10020 := by
  have h1 := uvar_len m.u
  have h2 := uvar_len (zz m.n)
  have h3 := uvar_len m.b.length
  have h4 := uvar_len m.l.length
  have h5 := zvars_len m.l
  have hb := h.s
  rw [V.enc]
  split
  · omega
  · split
    · simp only [zvar]; omega
    · split
      · simp
      · split
        · simp only [rawW, List.length_append]; omega
        · simp only [intsW, List.length_append]; omega
theorem encs_len2 (ms : VL) (h : ∀ p ∈ ms, p.1.Can) : (encs ms).length ≤ 10020 * ms.length := by
  induction ms with
  | nil => simp [encs]
  | cons p ms ih =>
    have h1 := enc_len2 p.1 (h p (by simp))
    have h2 := ih fun q hq => h q (by simp [hq])
    simp only [encs, List.flatMap_cons, List.length_append, List.length_cons] at h2 ⊢
    omega

theorem lread_err (b : Nat) (v : Value) (bs : List UInt8) (e k : Int) (w : World) (hR : Rst w b v bs (.error e)) (hl : bs.length ≤ 1099511627776) :
    Calls Try.prog 23 #[.pointer (some ⟨b, 0, none⟩), .int .i64 k] w (fun en w' => ∃ a1 c1 a2 c2, en = .returned (.agg #[.int .i64 k, .int .u64 0, .int .i64 0, .slice a1 0 c1, .slice a2 0 c2]) ∧ Rst w' b v bs (.error e) ∧ BStep b w w' ∧ RvV w' w'.heap.size ⟨k, 0, 0, [], []⟩ (.slice a1 0 c1) (.slice a2 0 c2)) := by
  have h := lread_any b v bs _ k w hR hl
  rw [rdV_error] at h
  refine h.mono ?_
  rintro en w' ⟨vb, vl, rfl, T, S, R, _, _⟩
  obtain ⟨a1, c1, hv1, _, _⟩ := R.b.opened
  obtain ⟨a2, c2, hv2, _, _⟩ := R.l.opened
  have hv1 : vb = .slice a1 0 c1 := hv1
  have hv2 : vl = .slice a2 0 c2 := hv2
  subst hv1 hv2
  exact ⟨a1, c1, a2, c2, rfl, T, S, R⟩

set_option maxRecDepth 20000 in
set_option maxHeartbeats 4000000 in
theorem law_WirePrefix (v : Value) (xs : List Int) (cut : Int) (c : UInt8) (w : World) (hv : Rv w v xs.length (xs.map (Value.int .i64))) (hx : ∀ x ∈ xs, -9223372036854775808 ≤ x ∧ x ≤ 9223372036854775807) (hn : -9223372036854775808 ≤ cut ∧ cut ≤ 9223372036854775807) :
    Calls Try.prog 9 #[v, .int .i64 cut, vB c] w (RetT w) := by
  have HN := Lib.hid hn
  clear hn
  unfold vB
  go_enter Try.func9, Try.ntmps9
  go_wp2_with fail
  refine (vals_any v xs w hv hx).mono ?_
  rintro e w2 ⟨ov, ms, rfl, hml, HC, hI2⟩
  clear hv hx
  have R2 := hI2.rvs
  have B2 := hI2.bl
  have EL : Hid (∀ p ∈ ms, p.1.Ok ∧ p.1.Can) := fun p hp => ⟨(hI2.el p hp).2, HC.out p hp⟩
  have hln := encs_len2 ms HC.out
  have HLN : Hid ((encs ms).length ≤ 81000) := by show _ ≤ _; omega
  clear hI2 hln HC
  obtain ⟨ao, cap, rfl, hcap, _⟩ := R2.rv.opened
  go_wp2_with fail
  refine (encode_any _ ms w2 R2 (by omega)).mono ?_
  rintro e w3 ⟨d, rfl, M3⟩
  have R3 := R2.belowb M3.2
  have B3 := bel B2 M3.2
  have h23 := M3.2.size
  have hd3 := M3.rv
  rw [List.length_map] at hd3
  obtain ⟨ad, cd, hdl, hcd⟩ : ∃ ad cd, d = .slice ad (encs ms).length cd ∧ (encs ms).length ≤ cd := by obtain ⟨ad, cd, h, h2, _⟩ := hd3.opened; exact ⟨ad, cd, h, h2⟩
  subst hdl
  by_cases hz : (encs ms).length = 0
  · have hz' : ((encs ms).length : Int) == 0 := by simp [hz]
    rw [hz] at *
    go_wp2_with fail
    refine (read_any (.slice none 0 0) [] w3 (Rv.nil w3) (by simp)).mono ?_
    rintro e w4 ⟨b, v4, rfl, hb4, _, T4, B4⟩
    have B5 := bel B3 B4
    have hE := rend_any _ _ _ _ _ T4
    simp only [rdEnd] at hE
    go_wp2_with fail
    refine hE.mono ?_
    rintro e w5 ⟨rfl, n5, hw5⟩
    have B6 : Below w.heap.size w w5 := by rw [hw5]; exact belD B5 _
    clear hw5 hE T4 B4 B5
    go_wp2_with fail
    refine (lives_any _).mono ?_
    rintro e w6 ⟨rfl, B7⟩
    go_wp2_with fail
    go_ret
    exact ⟨rfl, bel B6 B7⟩
  · have hz' : (((encs ms).length : Int) == 0) = false := by simpa using hz
    have hz1 : 1 ≤ (encs ms).length := by omega
    generalize hE : encs ms = E at *
    have HE := Lib.hid hE
    clear hE hz
    have hln := HLN.out
    go_wp2_with fail
    refine (around_nat cut E.length hz1 HN.out.1 HN.out.2 (by omega) _).mono ?_
    rintro e w4 ⟨k, hk, _, rfl, rfl⟩
    have hRk : Rv w3 (.slice ad k cd) (E.take k).length ((E.take k).map vB) := by
      obtain ⟨a', c', h1, _, h2⟩ := hd3.firsts k (by omega)
      cases h1
      have := h2 k rfl
      rw [List.length_take, Nat.min_eq_left (by omega), List.map_take]
      exact this
    have hEk : (E.take k).length ≤ 81000 := by rw [List.length_take]; omega
    have HEK := Lib.hid hEk
    clear hEk
    have hke : (k : Int) ≤ (E.length : Int) := by omega
    go_wp2_with fail
    refine (read_any _ (E.take k) w3 hRk (by have := HEK.out; omega)).mono ?_
    rintro e w5 ⟨b5, v5, rfl, hb5, hv5, T5, B5⟩
    have hd5 := hd3.below B5
    clear hRk
    go_wp2_with fail
    refine (few_big _ E E.length (by omega) w5 hd5).mono ?_
    rintro e w6 ⟨d6, rfl, M6⟩
    rw [List.take_length] at M6
    obtain ⟨a6, c6, rfl⟩ := M6.len
    have own6 := M6.1
    rw [List.length_map] at own6
    have B6 := bel B5 M6.2
    go_wp2_with (at_builtin; refine wpList_app _ rfl _ _ rfl Try.elB w5.heap.size _ E.length _ rfl (own_below own6 ((Below.refl _ w6).alloc (Nat.le_refl _) _)) (.slice (some ⟨w6.heap.size, 0, none⟩) 1 1) 1 [vB c] rfl (Rv.one _ _ _) rfl (ones1 _ rfl) (by omega) (by have := M6.2.size; simp; omega) ?_; intro v7 w7 own7 hg7 _)
    have hr7 : Rv w7 v7 (E ++ [c]).length ((E ++ [c]).map vB) := by have := Rv.of_own own7; simpa using this
    have C7 : Below w5.heap.size w5 w7 := (M6.2.alloc M6.2.size _).grown hg7 (by have := M6.2.size; simp; omega) (fun g e => (own6.lt g e).1)
    have T7 := T5.later C7
    have B7 := bel B5 C7
    have h57 := C7.size
    have hb57 := T5.lt
    have h35 := B5.size
    clear own7 hg7 own6 M6 C7 T5 B6 hd5
    refine (read_any v7 (E ++ [c]) w7 hr7 (by rw [List.length_append, List.length_singleton]; omega)).mono ?_
    rintro e w8 ⟨b8, v8, rfl, hb8, hv8, T8, B8⟩
    have T58 := T7.later B8
    have B38 := bel B7 B8
    have hne : b8 ≠ b5 := by omega
    have hn85 : v8.ownBlock ≠ some b5 := fun e => by have := (hv8 _ e).1; omega
    have hn58 : v5.ownBlock ≠ some b8 := fun e => by have := (hv5 _ e).2; omega
    have H35 : w3.heap.size ≤ b8 := by omega
    have HL8 : Hid ((E ++ [c]).length ≤ 1099511627776) := by show _ ≤ _; rw [List.length_append, List.length_singleton]; omega
    clear hv8 hv5 T7 B7 B8 hr7 h57 hb57
    go_wp2_with fail
    go_loopw [12] (fun iv wr => ∃ (i : Nat) (s : RS), iv = .int .i64 (i : Int) ∧ i ≤ ms.length ∧ PInv ms i s ∧ Rst wr b5 v5 (E.take k) s ∧ Rst wr b8 v8 (E ++ [c]) (.ok (encs (ms.drop i) ++ [c])) ∧ Below w3.heap.size w3 wr) (fun iv _ => ms.length - (intOf iv).toNat)
    case atStart =>
      refine ⟨0, _, rfl, Nat.zero_le _, ?_, T58, ?_, B38⟩
      · rw [← HE.out]; exact PInv.start k (by rw [HE.out]; exact hk)
      · rw [List.drop_zero, HE.out]; exact T8
    case round =>
      obtain ⟨i, s, rfl, hi, hP, T5, T8, hB⟩ := hrel
      by_cases hlt : i < ms.length
      · obtain ⟨b2, off2, cap2, hceq, hcap2, hb2, A⟩ := (R3.belowb (hB.mono h23)).at5 hlt
        cases hceq
        have HO := Lib.hid (EL.out ms[i] (List.getElem_mem hlt))
        have hP' := hP.step hlt HO.out.1 HO.out.2
        rw [encs_drop ms i hlt, List.append_assoc] at T8
        generalize ms[i] = p at *
        obtain ⟨m, vb, vl⟩ := p
        simp only at A HO T8 hP'
        have hb23 : b2 < w3.heap.size := by omega
        have a0 := A.k0
        go_wp2_with fail
        refine (lread_any b5 v5 _ s m.k _ T5 (by have := HEK.out; omega)).mono ?_
        rintro e w9 ⟨vb9, vl9, rfl, T59, S9, _, _, _⟩
        have B9 := S9.bel hB hb5 T5.lt
        have A9 := A.below (S9.below _ hb5 T5.lt) hb23
        have T89 := T8.other S9 hne hn85
        have c0 := A9.k0
        clear a0 S9 T5 T8 A hB
        go_wp2_with fail
        refine (lread_enc b8 v8 _ m HO.out.1 HO.out.2 _ _ T89 HL8.out).mono ?_
        rintro e w10 ⟨vb10, vl10, rfl, T10, S10, _, _, _⟩
        have B10 := S10.bel B9 H35 T89.lt
        have T510 := T59.other S10 hne.symm hn58
        go_wp2_with fail
        go_roundw
        case rel => exact ⟨i + 1, _, by go_num, by omega, hP', T510, T10, B10⟩
        case measure => simp [intOf]; omega
      · obtain rfl : i = ms.length := by omega
        obtain rfl := hP.done
        rw [List.drop_length] at T8
        go_wp2_with fail
        refine (rend_any _ _ _ _ _ T5).mono ?_
        rintro e w9 ⟨rfl, n9, hw9⟩
        have T59 : Rst w9 b5 v5 (E.take k) (.error 3) := by rw [hw9]; exact T5.later (belD (Below.refl _ _) _)
        have T89 : Rst w9 b8 v8 (E ++ [c]) (.ok [c]) := by rw [hw9]; exact T8.later (belD (Below.refl _ _) _)
        have B9 : Below w3.heap.size w3 w9 := by rw [hw9]; exact belD hB _
        clear hw9 T5 T8 hB
        simp only [rdEnd]
        go_wp2_with fail
        refine (rend_any _ _ _ _ _ T89).mono ?_
        rintro e w10 ⟨rfl, n10, hw10⟩
        have T10 : Rst w10 b5 v5 (E.take k) (.error 3) := by rw [hw10]; exact T59.later (belD (Below.refl _ _) _)
        have B10 : Below w3.heap.size w3 w10 := by rw [hw10]; exact belD B9 _
        clear hw10 T59 T89 B9
        simp only [rdEnd]
        go_wp2_with fail
        refine (around_nat cut 6 (by decide) HN.out.1 HN.out.2 (by decide) _).mono ?_
        rintro e w11 ⟨k6, hk6, _, rfl, rfl⟩
        go_wp2_with fail
        refine (lread_err b5 v5 _ 3 k6 _ T10 (by have := HEK.out; omega)).mono ?_
        rintro e w12 ⟨a1, c1, a2, c2, rfl, T12, S12, R12⟩
        have B12 := S12.bel B10 hb5 T10.lt
        clear T10 S12 B10
        have C12 := Box5.new w12 (.int .i64 (k6 : Int)) (.int .u64 0) (.int .i64 0) (.slice a1 0 c1) (.slice a2 0 c2)
        have g0 := C12.k0
        have g1 := C12.k1
        have g2 := C12.k2
        have g3 := C12.k3
        have g4 := C12.k4
        go_wp2_with fail
        have D12 : Below w12.heap.size w12 (w12.alloc (.cells #[.int .i64 (k6 : Int), .int .u64 0, .int .i64 0, .slice a1 0 c1, .slice a2 0 c2] 47)) := (Below.refl _ w12).alloc (Nat.le_refl _) _
        refine (same_any ⟨k6, 0, 0, [], []⟩ _ _ _ _ _ (R12.b.below D12) (R12.l.below D12) (Rv.nil _) (Rv.nil _)).mono ?_
        rintro e w13 ⟨rfl, B13⟩
        have D13 : Below w12.heap.size w12 w13 := bel D12 B13
        have T13 := T12.later D13
        have E13 := bel B12 D13
        clear D12 B13 D13 T12 B12 C12 g0 g1 g2 g3 g4 R12
        go_wp2_with fail
        refine (rend_any _ _ _ _ _ T13).mono ?_
        rintro e w14 ⟨rfl, n14, hw14⟩
        have B14 : Below w.heap.size w w14 := by rw [hw14]; exact belD (bel B3 E13) _
        clear hw14 T13 E13
        simp only [rdEnd]
        go_wp2_with fail
        refine (lives_any _).mono ?_
        rintro e w15 ⟨rfl, B15⟩
        go_wp2_with fail
        go_ret
        exact ⟨rfl, bel B14 B15⟩
end Go.Proofs.Ytofgcoapbocneaa
