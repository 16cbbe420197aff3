/- rexmillref02.Encode: the reference's encoding of a list of values. -/
import Derived.Test.YtofgcoapbocneaaEnc
namespace Go.Proofs.Ytofgcoapbocneaa
open Go.RowKit

set_option maxHeartbeats 4000000 in
theorem rencode_any (c : Value) (ms : VL) (w : World) (hc : RvVs w w.heap.size c ms) (hl : ms.length ≤ 900) :
    Calls Try.prog 18 #[c] w (RetMade w 5 ((encs ms).map vB)) := by
  obtain ⟨ao, cap, rfl, hcap, hrd⟩ := hc.rv.opened
  go_enter Try.func18, Try.ntmps18
  go_wp2_with fail
  go_loopw [3, 4] (fun lv nv wr => ∃ (i : Nat) (pre : List UInt8), nv = .int .i64 (i : Int) ∧ i ≤ ms.length ∧ Hid (pre = encs (ms.take i)) ∧ wr.ownsRow w.heap.size 5 1 lv pre.length (pre.map vB) ∧ Below w.heap.size w wr) (fun _ nv _ => ms.length - (intOf nv).toNat)
  case atStart => exact ⟨0, [], rfl, Nat.zero_le _, rfl, World.ownsRow_nil _ _ _ _, Below.refl _ _⟩
  case round =>
    obtain ⟨i, pre, rfl, hi, HP, hown, hB⟩ := hrel
    have hs := hB.size
    by_cases hlt : i < ms.length
    · have hr := (hc.belowb hB)
      have hsn := Lib.hid (encs_snoc ms i hlt)
      have hel := hr.el ms[i] (List.getElem_mem hlt)
      have hel2 := encs_len (ms.take i) (fun p hp => (hr.el p (List.mem_of_mem_take hp)).2)
      have hlen : pre.length ≤ 1000000000 := by rw [HP.out]; rw [List.length_take] at hel2; omega
      have hfl : ∀ j, j < 5 → (flatV ms)[5 * i + j]? = [Value.int .i64 ms[i].1.k, .int .u64 (ms[i].1.u : Int), .int .i64 ms[i].1.n, ms[i].2.1, ms[i].2.2][j]? := by
        intro j hj; rw [flatV_at ms i j hj, List.getElem?_eq_getElem hlt]; rfl
      generalize ms[i] = p at *
      obtain ⟨⟨k, u, n, mb, ml⟩, vb, vl⟩ := p
      simp only at hfl hel hsn
      obtain ⟨hev, hok⟩ := hel
      have hml := enc_len _ hok
      have hu := Lib.hid hok.u
      have hn := Lib.hid hok.n
      have hb := Lib.hid hok.b
      have hll := Lib.hid hok.l
      have hrr := Lib.hid hok.r
      have hvb := hev.b
      have hvl := hev.l
      simp only at hu hn hb hll hrr hvb hvl
      clear hok hev hel2
      obtain ⟨b2, off2, rfl, hc0⟩ := hr.rv.rd.cell (hfl 0 (by omega))
      have hc1 := hr.rv.rd.at (hfl 1 (by omega))
      have hc2 := hr.rv.rd.at (hfl 2 (by omega))
      have hc3 := hr.rv.rd.at (hfl 3 (by omega))
      have hc4 := hr.rv.rd.at (hfl 4 (by omega))
      rw [show off2 + (5 * i + 0) = off2 + i * 5 from by omega] at hc0
      rw [show off2 + (5 * i + 1) = off2 + i * 5 + 1 from by omega] at hc1
      rw [show off2 + (5 * i + 2) = off2 + i * 5 + 2 from by omega] at hc2
      rw [show off2 + (5 * i + 3) = off2 + i * 5 + 3 from by omega] at hc3
      rw [show off2 + (5 * i + 4) = off2 + i * 5 + 4 from by omega] at hc4
      clear hfl
      by_cases h0 : k = 0
      · subst h0
        have he : V.enc ⟨0, u, n, mb, ml⟩ = uvar u := by simp [V.enc]
        rw [he] at hsn hml
        go_wp2_with fail
        refine (euint_any u _ hu.out).mono ?_
        rintro e w4 ⟨v4, rfl, h4, hB4⟩
        have h4r := Rv.of_own h4
        have hB5 := bel hB hB4
        have hown4 := own_below hown hB4
        rw [List.length_map] at h4r
        go_wp2_with (at_builtin; refine wpList_app _ rfl _ _ rfl Try.elB w.heap.size _ _ _ rfl hown4 _ (uvar u).length _ rfl h4r (by simp) (ones_B _) (by omega) hB5.size ?_; intro v6 w6 hown6 hg6 _)
        go_roundw
        case rel =>
          refine ⟨i + 1, pre ++ uvar u, by go_num, by omega, ?_, ?_, hB5.grown hg6 hB5.size (fun g hg => (hown4.lt g hg).1)⟩
          · show _ = _
            rw [hsn.out, HP.out]
          · rw [List.length_append, List.map_append]; exact hown6
        case measure => simp [intOf]; omega
      · have q0 : (k == 0) = false := beq_eq_false_iff_ne.2 h0
        by_cases h1 : k = 1
        · subst h1
          have he : V.enc ⟨1, u, n, mb, ml⟩ = zvar n := by simp [V.enc]
          rw [he] at hsn hml
          go_wp2_with fail
          refine (eint_any n _ hn.out.1 hn.out.2).mono ?_
          rintro e w4 ⟨v4, rfl, h4, hB4⟩
          have h4r := Rv.of_own h4
          have hB5 := bel hB hB4
          have hown4 := own_below hown hB4
          rw [List.length_map] at h4r
          go_wp2_with (at_builtin; refine wpList_app _ rfl _ _ rfl Try.elB w.heap.size _ _ _ rfl hown4 _ (zvar n).length _ rfl h4r (by simp) (ones_B _) (by omega) hB5.size ?_; intro v6 w6 hown6 hg6 _)
          go_roundw
          case rel =>
            refine ⟨i + 1, pre ++ zvar n, by go_num, by omega, ?_, ?_, hB5.grown hg6 hB5.size (fun g hg => (hown4.lt g hg).1)⟩
            · show _ = _
              rw [hsn.out, HP.out]
            · rw [List.length_append, List.map_append]; exact hown6
          case measure => simp [intOf]; omega
        · have q1 : (k == 1) = false := beq_eq_false_iff_ne.2 h1
          by_cases h2 : k = 2
          · subst h2
            have he : V.enc ⟨2, u, n, mb, ml⟩ = [if n = 1 then (1 : UInt8) else 0] := by simp [V.enc]
            rw [he] at hsn hml
            go_wp2_with fail
            refine (ebool_any (n == 1) _).mono ?_
            rintro e w4 ⟨v4, rfl, h4, hB4⟩
            rw [show [if (n == 1) = true then (1 : UInt8) else 0] = [if n = 1 then (1 : UInt8) else 0] from by simp] at h4
            have h4r := Rv.of_own h4
            have hB5 := bel hB hB4
            have hown4 := own_below hown hB4
            rw [List.length_map] at h4r
            go_wp2_with (at_builtin; refine wpList_app _ rfl _ _ rfl Try.elB w.heap.size _ _ _ rfl hown4 _ ([if n = 1 then (1 : UInt8) else 0]).length _ rfl h4r (by simp) (ones_B _) (by omega) hB5.size ?_; intro v6 w6 hown6 hg6 _)
            go_roundw
            case rel =>
              refine ⟨i + 1, pre ++ [if n = 1 then (1 : UInt8) else 0], by go_num, by omega, ?_, ?_, hB5.grown hg6 hB5.size (fun g hg => (hown4.lt g hg).1)⟩
              · show _ = _
                rw [hsn.out, HP.out]
              · rw [List.length_append, List.map_append]; exact hown6
            case measure => simp [intOf]; omega
          · have q2 : (k == 2) = false := beq_eq_false_iff_ne.2 h2
            by_cases h3 : k = 3
            · subst h3
              have he : V.enc ⟨3, u, n, mb, ml⟩ = rawW mb := by simp [V.enc]
              rw [he] at hsn hml
              go_wp2_with fail
              refine (eraw_any vb mb _ hvb (by have := hb.out; omega)).mono ?_
              rintro e w4 ⟨v4, rfl, h4, hB4⟩
              have h4r := Rv.of_own h4
              have hB5 := bel hB hB4
              have hown4 := own_below hown hB4
              rw [List.length_map] at h4r
              go_wp2_with (at_builtin; refine wpList_app _ rfl _ _ rfl Try.elB w.heap.size _ _ _ rfl hown4 _ (rawW mb).length _ rfl h4r (by simp) (ones_B _) (by omega) hB5.size ?_; intro v6 w6 hown6 hg6 _)
              go_roundw
              case rel =>
                refine ⟨i + 1, pre ++ rawW mb, by go_num, by omega, ?_, ?_, hB5.grown hg6 hB5.size (fun g hg => (hown4.lt g hg).1)⟩
                · show _ = _
                  rw [hsn.out, HP.out]
                · rw [List.length_append, List.map_append]; exact hown6
              case measure => simp [intOf]; omega
            · have q3 : (k == 3) = false := beq_eq_false_iff_ne.2 h3
              by_cases h4 : k = 4
              · subst h4
                have he : V.enc ⟨4, u, n, mb, ml⟩ = rawW mb := by simp [V.enc]
                rw [he] at hsn hml
                go_wp2_with fail
                refine (eraw_any vb mb _ hvb (by have := hb.out; omega)).mono ?_
                rintro e w4 ⟨v4, rfl, h4, hB4⟩
                have h4r := Rv.of_own h4
                have hB5 := bel hB hB4
                have hown4 := own_below hown hB4
                rw [List.length_map] at h4r
                go_wp2_with (at_builtin; refine wpList_app _ rfl _ _ rfl Try.elB w.heap.size _ _ _ rfl hown4 _ (rawW mb).length _ rfl h4r (by simp) (ones_B _) (by omega) hB5.size ?_; intro v6 w6 hown6 hg6 _)
                go_roundw
                case rel =>
                  refine ⟨i + 1, pre ++ rawW mb, by go_num, by omega, ?_, ?_, hB5.grown hg6 hB5.size (fun g hg => (hown4.lt g hg).1)⟩
                  · show _ = _
                    rw [hsn.out, HP.out]
                  · rw [List.length_append, List.map_append]; exact hown6
                case measure => simp [intOf]; omega
              · have q4 : (k == 4) = false := beq_eq_false_iff_ne.2 h4
                have he : V.enc ⟨k, u, n, mb, ml⟩ = intsW ml := by simp [V.enc, h0, h1, h2, h3, h4]
                rw [he] at hsn hml
                go_wp2_with fail
                refine (eints_any vl ml _ hvl hrr.out (by have := hll.out; omega)).mono ?_
                rintro e w4 ⟨v4, rfl, h4, hB4⟩
                have h4r := Rv.of_own h4
                have hB5 := bel hB hB4
                have hown4 := own_below hown hB4
                rw [List.length_map] at h4r
                go_wp2_with (at_builtin; refine wpList_app _ rfl _ _ rfl Try.elB w.heap.size _ _ _ rfl hown4 _ (intsW ml).length _ rfl h4r (by simp) (ones_B _) (by omega) hB5.size ?_; intro v6 w6 hown6 hg6 _)
                go_roundw
                case rel =>
                  refine ⟨i + 1, pre ++ intsW ml, by go_num, by omega, ?_, ?_, hB5.grown hg6 hB5.size (fun g hg => (hown4.lt g hg).1)⟩
                  · show _ = _
                    rw [hsn.out, HP.out]
                  · rw [List.length_append, List.map_append]; exact hown6
                case measure => simp [intOf]; omega
    · obtain rfl : i = ms.length := by omega
      go_wp2_with fail
      go_ret
      exact retMade hown (by rw [HP.out, List.take_length]) hB
end Go.Proofs.Ytofgcoapbocneaa
