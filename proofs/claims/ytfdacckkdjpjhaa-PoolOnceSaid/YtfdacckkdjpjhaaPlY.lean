/- The law PoolOnce: the walk. -/
import Derived.Test.YtfdacckkdjpjhaaPlX
import Derived.Deep.CutBlock
import Derived.Deep.CutRange
import Derived.Deep.OwnRows
namespace Go.Proofs.Ytfdacckkdjpjhaa
open Go.RowKit

set_option linter.unusedSimpArgs false in
set_option maxRecDepth 20000 in
set_option maxHeartbeats 8000000 in
theorem law_PoolOnce (v : Value) (l : List Int) (timeout : Int) (w : World) (hv : Rv w v l.length (l.map (Value.int .i64))) (hx : ∀ x ∈ l, -9223372036854775808 ≤ x ∧ x ≤ 9223372036854775807) (ht : -9223372036854775808 ≤ timeout ∧ timeout ≤ 9223372036854775807) :
    Calls Try.prog 7 #[v, .int .i64 timeout] w fun e w' => e = .returned (.bool true) ∧ Below w.heap.size w w' := by
  obtain ⟨av, cv, rfl, _, _⟩ := hv.opened
  have HT := Bx.mk ht
  have HX := Bx.mk hx
  clear ht hx
  have hmk : ∀ W : World, (Instr.makeSlice 22 (.int .i64 16) (.int .i64 16)).run Try.prog W = .ok (.slice (some ⟨W.heap.size, 0, none⟩) 16 16) (W.alloc (.cells (madeCells #[.int .i64 0] 16) 3)) := fun W =>
    run_make_row' 22 3 (.int .i64 0) 8 Try.underlying22 Try.infoI rfl .i64 .i64 16 (by omega) (by omega) W
  go_enter Try.func7, Try.ntmps7
  go_wp2_with fail
  refine (around_nat timeout 9 (by omega) HT.out.1 HT.out.2 (by omega) _).mono ?_
  rintro e w1 ⟨b, hb, _, rfl, rfl⟩
  obtain ⟨lim, hlim⟩ : ∃ N : Nat, 1 + (b : Int) = (N : Int) := ⟨1 + b, by omega⟩
  have hl1 : 1 ≤ lim := by omega
  have hl2 : lim ≤ 10 := by omega
  go_upto_region 2 with fail
  clear hlim hb
  have HPN := Bx.mk (pz_new 4 (lim : Int) (by decide) (by omega) w)
  go_wp2_with fail
  refine HPN.out.mono ?_
  rintro e w2 ⟨p, Z2, rfl, P2, hZ2, B2⟩
  clear HPN
  go_wp2_with fail
  refine (script_any _ l 40 w2 (by decide) (hv.below B2) HX.out).mono ?_
  rintro e w3 ⟨ov, ops, rfl, O3, hol, B3⟩
  have P3 := P2.later B3
  have BB3 := bel B2 B3
  obtain ⟨oa, oc, rfl⟩ := own_isSlice O3.own
  obtain ⟨n, hn⟩ : ∃ n, ops.length = n := ⟨_, rfl⟩
  rw [hn] at hol
  have HN := Bx.mk hn
  have HOK := Bx.mk (fun q (hq : q ∈ ops) => (O3.rd q hq).2)
  have HSH := Bx.mk (fun q (hq : q ∈ ops) => (show ∃ a m c, q.bv = .slice a m c from by obtain ⟨a, c, e, _⟩ := (O3.rd q hq).1; exact ⟨a, _, c, e⟩))
  go_upto_region 10 with fail
  have B4 := (Below.refl w3.heap.size w3).alloc (Nat.le_refl _) (.cells (madeCells #[.int .i64 0] 16) 3)
  have hb4 := World.alloc_heap_new w3 (.cells (madeCells #[.int .i64 0] 16) 3)
  have S4 : OncS w (w3.alloc (.cells (madeCells #[.int .i64 0] 16) 3)) p Z2 (newPl 4 (lim : Int)) (lim : Int) (.slice none 0 0) [] w3.heap.size (List.replicate 16 0) (.slice oa ops.length oc) ops := by
    refine ⟨P3.later B4, World.ownsRow_nil .., ⟨by rw [List.length_map, List.length_replicate], .inr ⟨w3.heap.size, 16, _, rfl, BB3.size, hb4, Nat.le_refl _, by decide, by kernel_rfl, by kernel_rfl⟩⟩, own_base (own_below O3.own B4) (by have := B2.size; omega), (fun b hb => by cases hb), (fun hx => by have := P3.zl _ hx; omega), fun b hb hx => by have h1 := (O3.own.lt b hb).1; have h2 := P2.zl b hx; omega, bel BB3 B4, hZ2⟩
  rw [hn] at S4
  have HS4 := Bx.mk S4
  clear P2 P3 B2 B3 BB3 O3 hZ2 B4 hb4 S4 hn hv HX HT
  obtain ⟨w4, hw4⟩ : ∃ WW, w3.alloc (.cells (madeCells #[.int .i64 0] 16) 3) = WW := ⟨_, rfl⟩
  rw [hw4] at HS4 ⊢
  clear hw4
  obtain ⟨ga, hga⟩ : ∃ g, w3.heap.size = g := ⟨_, rfl⟩
  rw [hga] at HS4 ⊢
  clear hga
  go_loopw [9, 10, 12, 13, 14, 15, 16, 17, 18, 19, 20, 21, 22, 23, 24] (fun tk tv iv _ _ _ _ _ _ _ _ _ _ _ _ W => ∃ (i : Nat) (D : Pl) (L : List Tr) (a : List Int) (Z : Nat → Prop), iv = .int .i64 (i : Int) ∧ i ≤ n ∧ tk = .int .i64 D.tick ∧ Bx (OnceI (lim : Int) i D L a) ∧ Bx (OncS w W p Z D (lim : Int) tv L ga a (.slice oa n oc) ops)) (fun _ _ iv _ _ _ _ _ _ _ _ _ _ _ _ _ => n - (intOf iv).toNat)
  case atStart => exact ⟨0, _, _, _, _, rfl, Nat.zero_le _, rfl, ⟨OnceI.start 4 rfl _⟩, HS4⟩
  case round =>
    rename World => W
    clear HS4
    obtain ⟨i, D, L, a, Z, rfl, hi, rfl, HI, HS⟩ := hrel
    obtain ⟨ta, tc, htv⟩ := own_isSlice HS.out.tr
    by_cases hlt : i < n
    · have hltI : (i : Int) < (n : Int) := by omega
      obtain ⟨q, hq⟩ : ∃ q, ops[i]? = some q := ⟨_, List.getElem?_eq_getElem (by rw [HN.out]; exact hlt)⟩
      obtain ⟨g, c', hov, hoc, k0, k1, k2, k3, k4⟩ := HS.out.op hq
      injection hov with o1 o2 o3
      subst o1
      clear o2 o3
      obtain ⟨ba, bm, bc, hbv⟩ := HSH.out q (List.mem_of_getElem? hq)
      have hok := HOK.out q (List.mem_of_getElem? hq)
      rw [hbv] at k3
      obtain ⟨⟨kd, wk, nn, bb, wt⟩, bv⟩ := q
      obtain ⟨hk, hw, hnn, hn0, hn1, _, hwt⟩ := hok
      simp only at k0 k1 k2 k4 hk hw hnn hn0 hn1 hwt
      obtain ⟨mw, hmw⟩ : ∃ m, max 0 wt = m := ⟨_, rfl⟩
      have hmw2 : 0 ≤ mw ∧ mw ≤ 3 := by omega
      have htk := HI.out.tck
      have htk0 := HS.out.pz.ok.tck.1
      obtain ⟨tk, htke⟩ : ∃ t, D.tick = t := ⟨_, rfl⟩
      rw [htke] at htk htk0 ⊢
      have HTK := Bx.mk htke
      have htk2 : tk ≤ 120 := by omega
      have htw : IntKind.i64.wrap (tk + mw) = tk + mw := by rw [IntKind.wrap_i64]; omega
      clear hq hbv htke htk
      subst htv
      have HMW := Bx.mk hmw
      go_upto_region 14 with fail
      have B1 := (Below.refl W.heap.size W).alloc (Nat.le_refl _) (.cells #[.int .i64 kd, .int .i64 wk, .int .i64 nn, .slice ba bm bc, .int .i64 wt] 69)
      have hb1 := World.alloc_heap_new W (.cells #[.int .i64 kd, .int .i64 wk, .int .i64 nn, .slice ba bm bc, .int .i64 wt] 69)
      have HS1 := Bx.mk (HS.out.later B1)
      have HBW := Bx.mk HS.out.bel.size
      have HZB0 := fun b hb => HS.out.pz.zl b hb
      obtain ⟨W1, hW1⟩ : ∃ WW, W.alloc (.cells #[.int .i64 kd, .int .i64 wk, .int .i64 nn, .slice ba bm bc, .int .i64 wt] 69) = WW := ⟨_, rfl⟩
      rw [hW1] at B1 hb1 HS1 ⊢
      clear hW1
      obtain ⟨bo, hbo⟩ : ∃ b, W.heap.size = b := ⟨_, rfl⟩
      have HZB := Bx.mk (fun b (hb : Z b) => (show b < bo from by rw [← hbo]; exact HZB0 b hb))
      rw [hbo] at hb1 HBW ⊢
      have o0 : W1.cell? ⟨bo, 0, none⟩ = some (.int .i64 kd) := by simp [World.cell?, hb1]
      have o1 : W1.cell? ⟨bo, 1, none⟩ = some (.int .i64 wk) := by simp [World.cell?, hb1]
      have o2 : W1.cell? ⟨bo, 2, none⟩ = some (.int .i64 nn) := by simp [World.cell?, hb1]
      have HB1 := Bx.mk hb1
      have HK := Bx.mk hk
      have HKN := Bx.mk (And.intro hn0 hn1)
      clear B1 hb1 hbo HZB0 k0 k1 k2 k3 k4 HS hwt hn0 hn1 hk
      obtain ⟨m, hm⟩ : ∃ m, L.length = m := ⟨_, rfl⟩
      rw [hm] at HS1 ⊢
      have HM := Bx.mk hm
      have hi39 : i ≤ 39 := by omega
      have hKB : kindAt W1 bo = some (some 69) := by
        have := HB1.out
        unfold kindAt
        rw [this]
        rfl
      clear hm
      go_upto_block 2 with fail
      by_cases hk0 : kd = 0
      · subst hk0
        refine once_k0 HI HS1 HTK o2 (HKN.out.1 rfl) ⟨?_⟩
        intros
        rename_i hR
        obtain ⟨D', L', a', Z', rfl, HI', HS'⟩ := hR
        go_wp2_with fail
        go_roundw
        case rel => exact ⟨i + 1, D', L', a', Z', by simp, by omega, rfl, HI', HS'⟩
        case measure => simp [intOf]; omega
      · by_cases hk1 : kd = 1
        · subst hk1
          refine once_k1 HI HS1 HTK o1 HM hi39 hmw2 HZB htk0 htk2 hl2 ⟨?_⟩ ⟨?_⟩
          all_goals
            intros
            rename_i hR
            obtain ⟨D', L', a', Z', rfl, HI', HS'⟩ := hR
            go_wp2_with fail
            go_roundw
            case rel => exact ⟨i + 1, D', L', a', Z', by simp, by omega, rfl, HI', HS'⟩
            case measure => simp [intOf]; omega
        · by_cases hk3 : kd = 3
          · subst hk3
            refine once_k3 HI HS1 HTK o1 HM hi39 hmw2 HZB hKB ⟨?_⟩
            intros
            rename_i hR
            obtain ⟨D', L', a', Z', rfl, HI', HS'⟩ := hR
            go_wp2_with fail
            go_roundw
            case rel => exact ⟨i + 1, D', L', a', Z', by simp, by omega, rfl, HI', HS'⟩
            case measure => simp [intOf]; omega
          · by_cases hk4 : kd = 4
            · subst hk4
              refine once_k4 HI HS1 HTK o1 ⟨?_⟩
              intros
              rename_i hR
              obtain ⟨D', L', a', Z', rfl, HI', HS'⟩ := hR
              go_wp2_with fail
              go_roundw
              case rel => exact ⟨i + 1, D', L', a', Z', by simp, by omega, rfl, HI', HS'⟩
              case measure => simp [intOf]; omega
            · obtain rfl : kd = 2 := by have := HK.out; omega
              refine once_k2 HI HS1 HTK o2 HM hi39 hmw2 (HKN.out.2 (by omega)) ⟨?_⟩ ⟨?_⟩
              all_goals
                intros
                rename_i hR
                obtain ⟨D', L', a', Z', rfl, HI', HS'⟩ := hR
                go_wp2_with fail
                go_roundw
                case rel => exact ⟨i + 1, D', L', a', Z', by simp, by omega, rfl, HI', HS'⟩
                case measure => simp [intOf]; omega
    · obtain rfl : i = n := by omega
      --#A fin
      have HDN := Bx.mk (pz_done W HS.out.pz)
      have ok := HS.out.pz.ok
      have hfin := HI.out.fin ok
      have HREP := Bx.mk (fun r hr => HI.out.rep ok (r := r) hr)
      have hal := HI.out.al
      have hpos := HI.out.an
      subst htv
      clear ok
      go_wp2_with fail
      refine HDN.out.mono ?_
      rintro e w5 ⟨dv, xs, rfl, hxs, hR, B5⟩
      have HS5 := Bx.mk (HS.out.later B5)
      obtain ⟨da, dc, rfl⟩ := own_isSlice hR.own
      obtain ⟨m, hm⟩ : ∃ m, xs.length = m := ⟨_, rfl⟩
      have hfin : a.countP (fun x => decide (0 < x)) = m := by rw [← hfin, ← hxs, List.length_map, hm]
      obtain ⟨f, hf⟩ : ∃ f : Nat → Nat, ∀ k, f k = (a.take k).countP (fun x => decide (0 < x)) := ⟨_, fun _ => rfl⟩
      have hf0 : f 0 = 0 := by rw [hf]; simp
      have hf16 : f 16 = m := by rw [hf, ← hfin, List.take_of_length_le (by omega)]
      have hfl : ∀ k, f k ≤ k := fun k => by rw [hf]; refine Nat.le_trans List.countP_le_length ?_; rw [List.length_take]; omega
      have hfs : ∀ k x, a[k]? = some x → f (k + 1) = f k + if 0 < x then 1 else 0 := fun k x hx => by
        rw [hf, hf, List.take_add_one, hx, List.countP_append]
        by_cases h : 0 < x <;> simp [h]
      have HF16 := Bx.mk hf16
      have HFL := Bx.mk hfl
      have HFS := Bx.mk hfs
      have HAL := Bx.mk hal
      have HR := Bx.mk hR
      have HMM := Bx.mk hm
      have HXS := Bx.mk hxs
      rw [hm]
      clear hf hf16 hfl hfs hal hR hm hxs hfin HDN hpos
      go_wp2_with fail
      go_loopw [26, 27] (fun u6 u7 wr => wr = w5 ∧ ∃ k : Nat, u7 = .int .i64 (k : Int) ∧ k ≤ 16 ∧ u6 = .int .i64 (f k : Int)) (fun _ u _ => 16 - (intOf u).toNat)
      case atStart => exact ⟨rfl, 0, rfl, Nat.zero_le _, by rw [hf0]; rfl⟩
      case round =>
        obtain ⟨rfl, k, rfl, hk, rfl⟩ := hrel
        by_cases hlt2 : k < 16
        · have hlt2I : (k : Int) < 16 := by omega
          obtain ⟨u, hu⟩ : ∃ u, a[k]? = some u := ⟨_, List.getElem?_eq_getElem (by have := HAL.out; omega)⟩
          have hc := HS5.out.ans hu
          have hs := HFS.out k u hu
          have hfl := HFL.out k
          obtain ⟨fk, hfk⟩ : ∃ x, f k = x := ⟨_, rfl⟩
          rw [hfk] at hs hfl ⊢
          have HS' := Bx.mk hs
          clear hs hu hfk
          by_cases h0 : 0 < u
          · go_wp2_with fail
            go_roundw
            case rel => exact ⟨trivial, k + 1, by simp, by omega, by have := HS'.out; rw [if_pos h0] at this; rw [this]; simp⟩
            case measure => simp [intOf]; omega
          · go_wp2_with fail
            go_roundw
            case rel => exact ⟨trivial, k + 1, by simp, by omega, by have := HS'.out; rw [if_neg h0] at this; rw [this]; simp⟩
            case measure => simp [intOf]; omega
        · have hfk : f k = m := by rw [show k = 16 by omega]; exact HF16.out
          rw [hfk]
          have hlt2I : ¬ (k : Int) < 16 := by omega
          have hm16 : m ≤ 16 := by have := HFL.out 16; rw [HF16.out] at this; exact this
          clear hfk
          go_wp2_with fail
          go_loopw [28] (fun u8 wx => ∃ k q : Nat, wx = wr.drewN q ∧ u8 = .int .i64 (k : Int) ∧ k ≤ m) (fun u _ => m - (intOf u).toNat)
          case atStart => exact ⟨0, 0, rfl, rfl, Nat.zero_le _⟩
          case round =>
            obtain ⟨k, q, rfl, rfl, hk⟩ := hrel
            by_cases hlt3 : k < m
            · have hlt3I : (k : Int) < (m : Int) := by omega
              obtain ⟨x, hx⟩ : ∃ x, xs[k]? = some x := ⟨_, List.getElem?_eq_getElem (by rw [HMM.out]; exact hlt3)⟩
              obtain ⟨j, u, hj, hjt, hau, hbd, hu1, hu2⟩ := HREP.out x.1 (by rw [← HXS.out]; exact List.mem_map_of_mem (List.mem_of_getElem? hx))
              have hown := HR.out.own
              rw [HMM.out] at hown
              obtain ⟨rg, rc, hrv, hrc, _, hcell⟩ := row_at (own_base hown (Nat.zero_le _)) (by omega)
              injection hrv with t1 t2 t3
              subst t1
              clear t2 t3
              have hfa := fun jj => flat_at (fun x : Rep × Value => [.int .i64 x.1.task, .int .i64 x.1.worker, .int .i64 x.1.tr, x.2]) 4 (fun _ => rfl) xs k jj x hx
              have d0 := hcell _ _ (hfa 0 (by omega))
              have d3 := hcell _ _ (hfa 3 (by omega))
              have hbo := HR.out.each x (List.mem_of_getElem? hx)
              rw [hbd] at hbo
              obtain ⟨bg, bcc, hbv, hbc, _, hbcell⟩ := row_at (own_base hbo (Nat.zero_le _)) (by show 0 < 1; decide)
              have e00 := hbcell 0 _ rfl
              rw [hbv] at d3
              rw [hjt] at d0
              have hcc : (UInt8.ofNat u.toNat).toNat = u.toNat := by rw [UInt8.toNat_ofNat']; omega
              have hci : ((UInt8.ofNat u.toNat).toNat : Int) = u := by rw [hcc]; omega
              have e0 : wr.cell? ⟨bg, 0, none⟩ = some (.int .u8 u) := by
                rw [e00]
                show some (Value.int .u8 ((UInt8.ofNat u.toNat).toNat : Int)) = _
                rw [hci]
              have hc := HS5.out.ans hau
              have d0 : wr.cell? ⟨rg, k * 4, none⟩ = some (.int .i64 (j : Int)) := d0
              have d3 : wr.cell? ⟨rg, k * 4 + 3, none⟩ = some (.slice (some ⟨bg, 0, none⟩) 1 bcc) := d3
              have hbc : 1 ≤ bcc := hbc
              have hwu : IntKind.i64.wrap u = u := by rw [IntKind.wrap_i64]; omega
              clear e00 hcell hfa hbo hbcell hbv hown hcc hci hbd hjt hau hx
              have hj0 : ¬ (j : Int) < 0 := by omega
              have hj1 : ¬ 12 < (j : Int) := by omega
              have hjb0 : decide ((j : Int) < 0) = false := decide_eq_false hj0
              have hjb1 : decide (12 < (j : Int)) = false := decide_eq_false hj1
              go_wp2_with fail
              go_quiet (fail)
              go_wp2_with fail
              go_roundw
              case rel => exact ⟨k + 1, q + nq, by simp, by simp, by omega⟩
              case measure => simp [intOf]; omega
            · obtain rfl : k = m := by omega
              have HLV := Bx.mk (lives34_any (wr.drewN q))
              have HBE := Bx.mk (belD HS5.out.bel q)
              go_wp2_with fail
              refine HLV.out.mono ?_
              rintro e w9 ⟨rfl, B9⟩
              go_wp2_with fail
              go_ret
              exact ⟨rfl, bel HBE.out B9⟩
      --#Z fin
end Go.Proofs.Ytfdacckkdjpjhaa
