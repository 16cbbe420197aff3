/- rexmillref02.Reader.Uint. -/
import Derived.Test.YtadhghikanjkeaaMod
namespace Go.Proofs.Ytadhghikanjkeaa
open Go.RowKit

set_option maxHeartbeats 2000000 in
set_option maxRecDepth 20000 in
theorem muint_any (b D : Nat) (hD : D ≤ b) (s : RS) (w : World) (h : Mst w b D s) :
    Calls Try.prog 63 #[.pointer (some ⟨b, 0, none⟩)] w (MPost w b D (rdU s).2 (.int .u64 ((rdU s).1 : Int))) := by
  cases s with
  | error e =>
    obtain ⟨v, l, he, h0⟩ := h.bad_inv
    have hc1 := h0.cell1
    have hne : (e == 0) = false := by simpa using he
    go_enter Try.func63, Try.ntmps63
    go_wp2
    go_loopw [3, 4, 5] (fun nv uv iv wr => nv = .int .u64 0 ∧ uv = .int .u64 1 ∧ iv = .int .i64 0 ∧ wr = w) (fun _ _ _ _ => 0)
    case atStart => exact ⟨rfl, rfl, rfl, rfl⟩
    case round =>
      obtain ⟨rfl, rfl, rfl, rfl⟩ := hrel
      go_wp2_with fail
      go_ret
      exact ⟨rfl, h, BStep.refl _ _⟩
  | ok l =>
    obtain ⟨v, h0⟩ := h.ok_inv
    have hlm := h0.rv.len
    unfold maxLen at hlm
    obtain ⟨ao, cap, hv, hcap, _⟩ := h0.rv.opened
    subst hv
    go_enter Try.func63, Try.ntmps63
    go_wp2
    go_loopw [3, 4, 5] (fun nv uv iv wr => ∃ (i n U : Nat), nv = .int .u64 (n : Int) ∧ uv = .int .u64 (U : Int) ∧ iv = .int .i64 (i : Int) ∧ i ≤ 9 ∧ i ≤ l.length ∧ Hid (U = 128 ^ i) ∧ Hid (n < 128 ^ i) ∧ Hid (uInv l i n (l.drop i)) ∧ Mq wr b D (.slice ao l.length cap) l 0 ∧ BStep b w wr) (fun _ _ iv _ => 10 - (intOf iv).toNat)
    case atStart =>
      exact ⟨0, 0, 1, rfl, rfl, rfl, by omega, by omega, rfl, (by show 0 < 128 ^ 0; decide), uInv_start _, h0, .refl _ _⟩
    case round =>
      obtain ⟨i, n, U, rfl, rfl, rfl, hi, hil, HUU, HN, HU, hq, hB⟩ := hrel
      have hc0 := hq.cell0
      have hc1 := hq.cell1
      have hf0 := hq.frozen 0
      have hf1 := hq.frozen 1
      by_cases hlt : i < l.length
      · have hdr : l.drop i = l[i] :: l.drop (i + 1) := List.drop_eq_getElem_cons hlt
        obtain ⟨g, off, rfl, hcx⟩ := hq.rv.rd.cell (i := i) (u := vB l[i]) (by simp [hlt])
        generalize l[i] = c at *
        rw [hdr] at HU
        unfold vB at hcx
        have HI := Lib.hid hi
        clear hi hdr
        by_cases hform : (i = 9 ∧ 1 < c.toNat) ∨ (0 < i ∧ c.toNat = 0)
        · have hpost := uInv_form HU.out hform
          have hE : ∀ w2, w2 = wr.setCell ⟨b, 1, none⟩ (.int .i64 2) → MPost w b D (rdU (.ok l)).2 (.int .u64 ((rdU (.ok l)).1 : Int)) (.returned (.int .u64 0)) w2 := by
            rintro w2 rfl
            rw [hpost]
            exact ⟨rfl, .bad (by decide) (hq.err hD 2), hB.set 1 _⟩
          have HE := Lib.hid hE
          clear hE hpost
          rcases hform with ⟨h9, hc⟩ | ⟨hp, hc⟩
          · have hb1 : ((i : Int) == 9) = true := beq_iff_eq.2 (by omega)
            have hb2 : decide (1 < (c.toNat : Int)) = true := decide_eq_true (by omega)
            have H1 := Lib.hid h9
            have H2 := Lib.hid hc
            clear h9 hc
            go_wp2_with fail
            go_ret
            exact HE.out _ rfl
          · have hb4 : ((c.toNat : Int) == 0) = true := beq_iff_eq.2 (by omega)
            have hb2 : decide (1 < (c.toNat : Int)) = false := decide_eq_false (by omega)
            have H2 := Lib.hid hc
            clear hc
            by_cases h9 : i = 9
            · have hb1 : ((i : Int) == 9) = true := beq_iff_eq.2 (by omega)
              have H1 := Lib.hid h9
              clear h9
              go_wp2_with fail
              go_ret
              exact HE.out _ rfl
            · have hb1 : ((i : Int) == 9) = false := beq_eq_false_iff_ne.2 (by omega)
              have H1 := Lib.hid h9
              clear h9
              go_wp2_with fail
              go_ret
              exact HE.out _ rfl
        · have hms := mul_step i n c HI.out HN.out (by have := HI.out; omega)
          rw [← HUU.out] at hms
          have HF := Lib.hid hform
          have hpos : ((i : Int) == 9) = true ∧ decide (1 < (c.toNat : Int)) = false ∧ 0 < i ∧ ((c.toNat : Int) == 0) = false ∨ ((i : Int) == 9) = false ∧ 0 < i ∧ ((c.toNat : Int) == 0) = false ∨ ((i : Int) == 9) = false ∧ ¬ 0 < i := by
            by_cases h9 : i = 9
            · exact .inl ⟨beq_iff_eq.2 (by omega), decide_eq_false (by omega), by omega, beq_eq_false_iff_ne.2 (by omega)⟩
            · by_cases hi0 : 0 < i
              · exact .inr (.inl ⟨beq_eq_false_iff_ne.2 (by omega), hi0, beq_eq_false_iff_ne.2 (by omega)⟩)
              · exact .inr (.inr ⟨beq_eq_false_iff_ne.2 (by omega), hi0⟩)
          clear hform
          by_cases hc : c.toNat < 128
          · have hd := uInv_done HU.out HF.out hc
            have hicap : (i : Int) + 1 ≤ (cap : Int) := by omega
            have hb5 : decide ((c.toNat : Int) < 128) = true := decide_eq_true (by omega)
            have H2 := Lib.hid hc
            clear hc
            have hle1 : (0 : Int) ≤ (i : Int) + 1 := by omega
            have hle2 : (i : Int) + 1 ≤ (l.length : Int) := by omega
            have HD := Lib.hid hd
            clear hd
            rw [← HUU.out] at *
            generalize n + U * (c.toNat % 128) = m at *
            rcases hpos with ⟨hb1, hb2, hp, hb4⟩ | ⟨hb1, hp, hb4⟩ | ⟨hb1, hp⟩
            all_goals
              go_wp2_with fail
              all_goals
                go_ret
                rw [HD.out]
                exact ⟨rfl, .ok (hq.cutL hD (i + 1) (by omega) _ (by first | rw [if_pos (by omega)] | rw [if_neg (by omega)]) _ _ (by omega) (by omega)), hB.set 0 _⟩
          · have hst := Lib.hid (uInv_step HU.out HF.out hc)
            have hlt1 := Lib.hid (step_lt i n c.toNat HN.out)
            have hb5 : decide ((c.toNat : Int) < 128) = false := decide_eq_false (by omega)
            have H2 := Lib.hid hc
            clear hc
            rw [← HUU.out] at hst hlt1
            generalize n + U * (c.toNat % 128) = m at *
            rcases hpos with ⟨hb1, hb2, hp, hb4⟩ | ⟨hb1, hp, hb4⟩ | ⟨hb1, hp⟩
            · have := of_decide_eq_false hb2
              have := H2.out
              omega
            all_goals
              have h10 : i + 1 ≤ 9 := by have := beq_eq_false_iff_ne.1 hb1; have := HI.out; omega
              have hus := unit_step i (by omega)
              rw [← HUU.out] at hus
              have HU2 : Hid (128 ^ (i + 1) = 128 ^ (i + 1)) := rfl
              generalize hU' : 128 ^ (i + 1) = U' at hus
              have HU' := Lib.hid hU'.symm
              have H10 := Lib.hid h10
              clear h10 hU'
              go_wp2_with fail
              go_roundw
              case rel => exact ⟨i + 1, m, U', rfl, rfl, by go_num, H10.out, by omega, HU', hlt1, hst.out, hq, hB⟩
              case measure => have := H10.out; simp [intOf]; omega
      · obtain rfl : i = l.length := by omega
        rw [List.drop_length] at HU
        have hpost := uInv_nil HU.out
        go_wp2_with fail
        go_ret
        rw [hpost]
        exact ⟨rfl, .bad (by decide) (hq.err hD 3), hB.set 1 _⟩
end Go.Proofs.Ytadhghikanjkeaa
