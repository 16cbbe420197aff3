/- Package pool and its model: agrees. -/
import Derived.Test.YtfdacckkdjpjhaaPxO
namespace Go.Proofs.Ytfdacckkdjpjhaa
open Go.RowKit

theorem ansOf_at {D : Pl} {l : List Int} {i : Nat} {k : Int} {e : En} (hi : l[i]? = some k) (he : D.ts k = some e) (hd : e.done = true) : (ansOf D l)[(ansOf D (l.take i)).length]? = some e.ans := by
  have e1 : l = l.take i ++ k :: l.drop (i + 1) := by
    have hil := (List.getElem?_eq_some_iff.1 hi).1
    have := List.take_append_drop i l
    rw [List.drop_eq_getElem_cons hil, (List.getElem?_eq_some_iff.1 hi).2] at this
    exact this.symm
  have e2 : ansOf D l = ansOf D (l.take i) ++ ansOf D (k :: l.drop (i + 1)) := by
    conv => lhs; rw [e1]
    unfold ansOf
    rw [List.filterMap_append]
  have e3 : ansOf D (k :: l.drop (i + 1)) = e.ans :: ansOf D (l.drop (i + 1)) := by
    unfold ansOf
    rw [List.filterMap_cons, he]
    simp [hd]
  rw [e2, e3, List.getElem?_append_right (Nat.le_refl _), Nat.sub_self]
  rfl
theorem rplen (x : Rep × Value) : ([.int .i64 x.1.task, .int .i64 x.1.worker, .int .i64 x.1.tr, x.2] : List Value).length = 4 := rfl
/-- The cells of an answer. -/
theorem RepsE.at {W : World} {lo base : Nat} {v : Value} {xs : List (Rep × Value)} (h : RepsE W lo base v xs) {i : Nat} {x : Rep × Value} (hx : xs[i]? = some x) : ∃ g c, v = .slice (some ⟨g, 0, none⟩) xs.length c ∧ xs.length ≤ c ∧ W.cell? ⟨g, i * 4, none⟩ = some (.int .i64 x.1.task) ∧ W.cell? ⟨g, i * 4 + 1, none⟩ = some (.int .i64 x.1.worker) ∧ W.cell? ⟨g, i * 4 + 2, none⟩ = some (.int .i64 x.1.tr) ∧ W.cell? ⟨g, i * 4 + 3, none⟩ = some x.2 := by
  obtain ⟨g, c, hj, hc, _, hcell⟩ := row_at (own_base h.own (Nat.zero_le _)) (by have := (List.getElem?_eq_some_iff.1 hx).1; omega)
  have hf := fun k => flat_at (fun x : Rep × Value => [.int .i64 x.1.task, .int .i64 x.1.worker, .int .i64 x.1.tr, x.2]) 4 rplen xs i k x hx
  exact ⟨g, c, hj, hc, hcell _ _ (hf 0 (by omega)), hcell _ _ (hf 1 (by omega)), hcell _ _ (hf 2 (by omega)), hcell _ _ (hf 3 (by omega))⟩
theorem RepsE.later {W W' : World} {lo base : Nat} {v : Value} {xs : List (Rep × Value)} (h : RepsE W lo base v xs) (B : Below W.heap.size W W') : RepsE W' lo base v xs :=
  ⟨own_below h.own B, fun x hx => own_below (h.each x hx) B⟩
section
variable {p q n : Nat} {Z Y O : Nat → Prop} {D : Pl} {L : List Tr}
set_option maxRecDepth 20000 in
set_option maxHeartbeats 4000000 in
theorem agreesx_any (w : World) (T : TwX w p Z D q Y (mdOf D L) O) (s : Sim n D L) :
    Calls Try.prog 34 #[.pointer (some ⟨p, 0, none⟩), .pointer (some ⟨q, 0, none⟩)] w fun e w' => e = .returned (.bool true) ∧ Below w.heap.size w w' := by
  have ok := T.ok
  have HOK := Bx.mk ok
  have HT := Bx.mk T
  have HS := Bx.mk s
  have hmany := ok.many
  obtain ⟨nj, hnj⟩ : ∃ n, D.ids.length = n := ⟨_, rfl⟩
  rw [hnj] at hmany
  have HNJ := Bx.mk hnj
  clear T ok s hnj
  go_enter Try.func34, Try.ntmps34
  go_wp2_with fail
  obtain ⟨RP, hp0, _⟩ := HT.out.pz
  refine (open_any w hp0).mono ?_
  rintro e w1 ⟨v1, rfl, O1, B1⟩
  have T1 := HT.out.later B1
  obtain ⟨R1, hm1, _⟩ := T1.md
  have HMO := Bx.mk (mopen_any w1 hm1 HOK.out)
  have HT1 := Bx.mk T1
  have HO1 := Bx.mk O1
  obtain ⟨a1, c1, rfl⟩ := own_isSlice O1
  clear O1 T1 hm1
  go_wp2_with fail
  refine HMO.out.mono ?_
  rintro e w2 ⟨v2, rfl, O2, B2⟩
  obtain ⟨a2, c2, rfl⟩ := own_isSlice O2
  have T2 := HT1.out.later B2
  have r1 := Rv.of_own (own_below HO1.out B2)
  have HSI := Bx.mk (sameInts_refl _ _ (opn D D.ids) w2 r1 (Rv.of_own O2))
  have B02 := bel B1 B2
  obtain ⟨no, hno⟩ : ∃ n, (opn D D.ids).length = n := ⟨_, rfl⟩
  rw [hno] at HSI ⊢
  have HT2 := Bx.mk T2
  clear T2 r1 O2 HO1 HMO HT1 B1 B2 hno
  go_wp2_with fail
  refine HSI.out.mono ?_
  rintro e w3 ⟨rfl, n3, hw3⟩
  have T3 := HT2.out.later (belD (Below.refl w2.heap.size w2) n3)
  have B03 := belD B02 n3
  rw [← hw3] at T3 B03
  have HT3 := Bx.mk T3
  obtain ⟨RP3, hp3, _⟩ := T3.pz
  have HDN := Bx.mk (done_any w3 hp3)
  clear T3 hp3 hw3 HSI HT2 B02
  go_wp2_with fail
  refine HDN.out.mono ?_
  rintro e w4 ⟨v4, xs, rfl, hxs, hR, B4⟩
  obtain ⟨a4, c4, hv4⟩ := own_isSlice hR.own
  obtain ⟨nd, hnd⟩ : ∃ n, xs.length = n := ⟨_, rfl⟩
  rw [hnd] at hv4
  subst hv4
  have hnd2 : nd ≤ 1024 := by
    have h1 : xs.length = (ansOf D D.ids).length := by rw [← hxs, List.length_map]
    have h2 := ansOf_len D D.ids
    have h3 := HNJ.out
    omega
  have T4 := HT3.out.later B4
  have B04 := bel B03 B4
  have HXS := Bx.mk hxs
  have HR := Bx.mk hR
  have HND := Bx.mk hnd
  have HT4 := Bx.mk T4
  clear T4 hxs hR hnd HDN HT3 B03 B4
  go_wp2_with fail
  go_loopw [6, 7, 8] (fun kv u _ W => ∃ i k : Nat, u = .int .i64 (i : Int) ∧ kv = .int .i64 (k : Int) ∧ i ≤ nj ∧ k ≤ nd ∧ Bx (k = (ansOf D (D.ids.take i)).length) ∧ Below w4.heap.size w4 W) (fun _ u _ _ => nj - (intOf u).toNat)
  case atStart => exact ⟨0, 0, rfl, rfl, Nat.zero_le _, Nat.zero_le _, ⟨rfl⟩, Below.refl _ _⟩
  case round =>
    rename World => W
    obtain ⟨i, k, rfl, rfl, hi, hk, HK, hB⟩ := hrel
    have T5 := HT4.out.later hB
    obtain ⟨R5, hm5, _⟩ := T5.md
    obtain ⟨av5, jv5, tv5, J5, hm5⟩ := hm5
    have q3 := hm5.c3
    obtain ⟨ja, jc, hjv⟩ := own_isSlice hm5.jo
    replace hjv : jv5 = .slice ja nj jc := by rw [hjv, hm5.len, mdOf_len, HNJ.out]
    by_cases hlt : i < nj
    · have hltI : (i : Int) < (nj : Int) := by omega
      obtain ⟨kk, hkk⟩ : ∃ kk, D.ids[i]? = some kk := ⟨_, List.getElem?_eq_getElem (by have := HNJ.out; omega)⟩
      obtain ⟨e, he⟩ := (HOK.out.mem kk).1 (List.mem_of_getElem? hkk)
      obtain ⟨jx, g, c, hjx, hjxj, hjv2, hc, hcm, j0, j1, j2, j3, j4, j5, j6, _⟩ := hm5.atI hkk he
      rw [HNJ.out] at hjv2 hc
      rw [hjv2] at q3
      have hsn := ansOf_snoc D (D.ids.take i) kk e he
      rw [← take_snoc hkk] at hsn
      obtain ⟨rb, rc, hrv⟩ : ∃ a c, jx.rv = .slice a jx.j.reply.length c := by obtain ⟨a, c, e, _⟩ := (hm5.bd jx (List.mem_of_getElem? hjx)).2.1.opened; exact ⟨a, c, e⟩
      obtain ⟨bb, bc, hbv⟩ : ∃ a c, jx.bv = .slice a jx.j.body.length c := by obtain ⟨a, c, e, _⟩ := (hm5.bd jx (List.mem_of_getElem? hjx)).1.1.opened; exact ⟨a, c, e⟩
      rw [hrv] at j6
      rw [hbv] at j1
      have r6 := (hm5.bd jx (List.mem_of_getElem? hjx)).2.1
      rw [hrv, hjxj, jbOf_some he] at r6
      rw [hjxj, jbOf_some he] at j6
      obtain ⟨bln, hbln⟩ : ∃ n, jx.j.body.length = n := ⟨_, rfl⟩
      obtain ⟨rln, hrln⟩ : ∃ n, e.ans.body.length = n := ⟨_, rfl⟩
      rw [hbln] at j1
      simp only at r6 j6
      have R6 := Bx.mk r6
      rw [hrln] at j6 R6
      obtain ⟨tl, htl⟩ : ∃ n, e.tries.length = n := ⟨_, rfl⟩
      rw [htl] at j2
      have HKK := Bx.mk hkk
      have HE := Bx.mk he
      have HSN := Bx.mk hsn
      have HRL := Bx.mk hrln
      clear hm5 hjv hjv2 hkk he hjx hjxj hsn hrv hbv r6 hbln hrln htl T5
      cases hd : e.done
      · rw [hd] at j3 HSN
        have B6 := hB.alloc hB.size (.cells #[.int .i64 kk, .slice bb bln bc, .int .i64 (tl : Int), .bool false, .int .i64 e.ans.worker, .int .i64 e.ans.tr, .slice rb rln rc] 133)
        have HB6 := Bx.mk B6
        clear hB B6 hd
        go_wp2_with fail
        go_roundw
        case rel => exact ⟨i + 1, k, by simp, rfl, by omega, hk, ⟨by rw [HSN.out, HK.out]; simp⟩, HB6.out⟩
        case measure => simp [intOf]; omega
      · rw [hd] at j3 HSN
        have hat := ansOf_at HKK.out HE.out hd
        rw [← HK.out, ← HXS.out, List.getElem?_map] at hat
        obtain ⟨x, hx, hxa⟩ : ∃ x, xs[k]? = some x ∧ x.1 = e.ans := by
          cases hx : xs[k]? with
          | none => rw [hx] at hat; cases hat
          | some x => rw [hx] at hat; exact ⟨x, rfl, Option.some.inj hat⟩
        have htask := HS.out.log.ans kk e HE.out hd
        obtain ⟨gd, cd, hv4, hcd, d0, d1, d2, d3⟩ := (HR.out.later hB).at hx
        rw [HND.out] at hv4 hcd
        injection hv4 with e1 e2 e3
        subst e1 e3
        have hkx : k < nd := by have := (List.getElem?_eq_some_iff.1 hx).1; have := HND.out; omega
        have hkxI : (k : Int) < (nd : Int) := by omega
        have hx2 := (HR.out.later hB).each x (List.mem_of_getElem? hx)
        rw [hxa] at d0 d1 d2 hx2
        rw [htask] at d0
        obtain ⟨xa, xc, hxv⟩ := own_isSlice hx2
        rw [hxv] at d3 hx2
        have hrx := Rv.of_own hx2
        rw [HRL.out] at d3 hrx
        have B6 := hB.alloc hB.size (.cells #[.int .i64 kk, .slice bb bln bc, .int .i64 (tl : Int), .bool true, .int .i64 e.ans.worker, .int .i64 e.ans.tr, .slice rb rln rc] 133)
        have BA := (Below.refl W.heap.size W).alloc (Nat.le_refl _) (.cells #[.int .i64 kk, .slice bb bln bc, .int .i64 (tl : Int), .bool true, .int .i64 e.ans.worker, .int .i64 e.ans.tr, .slice rb rln rc] 133)
        have hb6 := World.alloc_heap_new W (.cells #[.int .i64 kk, .slice bb bln bc, .int .i64 (tl : Int), .bool true, .int .i64 e.ans.worker, .int .i64 e.ans.tr, .slice rb rln rc] 133)
        have ca : ∀ b j u, W.cell? ⟨b, j, none⟩ = some u → (W.alloc (.cells #[.int .i64 kk, .slice bb bln bc, .int .i64 (tl : Int), .bool true, .int .i64 e.ans.worker, .int .i64 e.ans.tr, .slice rb rln rc] 133)).cell? ⟨b, j, none⟩ = some u := fun b j u hc => (BA.cell (p := ⟨b, j, none⟩) (World.block_lt_of_cell? _ _ hc)).trans hc
        have D0 := Bx.mk (ca _ _ _ d0)
        have D1 := Bx.mk (ca _ _ _ d1)
        have D2 := Bx.mk (ca _ _ _ d2)
        have D3 := Bx.mk (ca _ _ _ d3)
        have RX := Bx.mk (hrx.below BA)
        have RY := Bx.mk (R6.out.below BA)
        have HB6 := Bx.mk B6
        have HB7 := Bx.mk hb6
        clear hat hx hxa htask d0 d1 d2 d3 hx2 hxv hrx hB B6 BA hb6 ca hd e2
        go_upto_region 10 with fail
        have B6 := HB6.out
        have hb6 := HB7.out
        have RX := RX.out
        have RY := RY.out
        have d0 := D0.out
        have d1 := D1.out
        have d2 := D2.out
        have d3 := D3.out
        clear HB6 HB7 D0 D1 D2 D3 q3 j0 j1 j2 j3 j4 j5 j6
        generalize W.alloc (.cells #[.int .i64 kk, .slice bb bln bc, .int .i64 (tl : Int), .bool true, .int .i64 e.ans.worker, .int .i64 e.ans.tr, .slice rb rln rc] 133) = W6 at *
        obtain ⟨jb, hjb⟩ : ∃ b, W.heap.size = b := ⟨_, rfl⟩
        rw [hjb] at hb6 ⊢
        have z0 : W6.cell? ⟨jb, 0, none⟩ = some (.int .i64 kk) := by simp [World.cell?, hb6]
        have z4 : W6.cell? ⟨jb, 4, none⟩ = some (.int .i64 e.ans.worker) := by simp [World.cell?, hb6]
        have z5 : W6.cell? ⟨jb, 5, none⟩ = some (.int .i64 e.ans.tr) := by simp [World.cell?, hb6]
        have z6 : W6.cell? ⟨jb, 6, none⟩ = some (.slice rb rln rc) := by simp [World.cell?, hb6]
        have HSB := Bx.mk (fun W' (hW : W'.heap = W6.heap) => sameBytes_refl (.slice xa rln xc) (.slice rb rln rc) e.ans.body W' (by rw [HRL.out]; exact rvSame RX (fun g _ _ => by rw [hW])) (by rw [HRL.out]; exact rvSame RY (fun g _ _ => by rw [hW])))
        have HB6 := Bx.mk B6
        clear hjb hb6 B6 RX RY
        go_quiet ((go_at_call 26; exact Calls.quiet_of (HSB.out _ rfl)))
        have HB9 := Bx.mk (below_drewN HB6.out nq)
        go_wp2_with fail
        go_roundw
        case rel => exact ⟨i + 1, k + 1, by simp, by simp, by omega, by omega, ⟨by rw [HSN.out, HK.out]; simp⟩, HB9.out⟩
        case measure => simp [intOf]; omega
    · obtain rfl : i = nj := by omega
      rw [hjv] at q3
      have hkd : k = nd := by
        have h1 := HK.out
        rw [← HNJ.out, List.take_length] at h1
        have h2 := HXS.out
        have h3 := HND.out
        rw [h1, ← h2, List.length_map, h3]
      subst hkd
      clear hm5 hjv T5
      go_wp2_with fail
      go_ret
      exact ⟨rfl, bel B04 hB⟩
end
end Go.Proofs.Ytfdacckkdjpjhaa
