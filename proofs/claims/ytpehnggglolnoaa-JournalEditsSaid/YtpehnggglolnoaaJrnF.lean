/- Package journal: first. -/
import Derived.Test.YtpehnggglolnoaaJrnE
import Derived.Deep.Cut
import Derived.Deep.CutRange
namespace Go.Proofs.Ytpehnggglolnoaa
open Go.RowKit

/-- As the program finds it. -/
def firstP (n : Int) (b : List UInt8) : Option (List UInt8) :=
  let c := (rdU (.ok (b.take 10))).1
  let h := (uvar c).length
  if b.length < h ∨ b.length - h < c then none else
  let q := rdI (.ok ((b.drop h).take c))
  let p := rdRaw q.2
  if rdEnd p.2 ≠ 0 ∨ q.1 ≠ n then none else
  if (frameM n p.1).isPrefixOf b then some p.1 else none
theorem firstP_eq {n : Int} (hn : -9223372036854775808 ≤ n ∧ n ≤ 9223372036854775807) {b : List UInt8} (hb : b.length < 18446744073709551616) : firstP n b = firstJ n b := by
  refine firstJ_eq hn hb (fun raw h => ?_) (fun h raw hp => ?_)
  · unfold firstP at h
    simp only at h
    split at h
    · cases h
    split at h
    · cases h
    split at h
    · rename_i hp
      cases h
      exact List.isPrefixOf_iff_prefix.1 hp
    · cases h
  · obtain ⟨t, ht⟩ := hp
    have hl : (frameM n raw).length ≤ b.length := by rw [← ht]; simp
    have hc := frameM_core n raw
    have hu := uvar_len (coreM n raw).length
    have hbe : b = uvar (coreM n raw).length ++ (coreM n raw ++ (uvar (bytesB frameL (coreM n raw)).toNat ++ t)) := by
      rw [← ht, frameM, rawW, List.append_assoc, List.append_assoc]
    have h1 : (rdU (.ok (b.take 10))).1 = (coreM n raw).length := by
      rw [hbe, List.take_append, List.take_of_length_le hu, rdU_uvar _ _ (by omega)]
    have h2 : rdI (.ok (coreM n raw)) = (n, .ok (rawW raw)) := by rw [coreM]; exact rdI_zvar n _ hn
    have h3 : rdRaw (.ok (rawW raw)) = (raw, .ok []) := by
      have := rdRaw_rawW raw [] (by omega)
      rwa [List.append_nil] at this
    have h4 : (b.drop (uvar (coreM n raw).length).length).take (coreM n raw).length = coreM n raw := by
      rw [hbe, List.drop_left, List.take_left]
    have hbl := congrArg List.length hbe
    simp only [List.length_append] at hbl
    unfold firstP at h
    simp only [h1, h4, h2, h3] at h
    rw [if_neg (by omega), if_neg (by simp [rdEnd]), if_pos (List.isPrefixOf_iff_prefix.2 ⟨t, ht⟩)] at h
    cases h
/-- How many bytes a varint takes, as the loop counts them. -/
theorem uvar_count {n : Nat} (h : 128 ≤ n) (h2 : n < 18446744073709551616) : (uvar n).length = (uvar (n / 128)).length + 1 := by rw [uvar_step h h2, List.length_cons]
theorem uvar_count1 {n : Nat} (h : n < 128) : (uvar n).length = 1 := by rw [uvar_small h]; rfl

theorem raw_le (core : List UInt8) : (rdRaw (rdI (.ok core)).2).1.length ≤ core.length := by
  have h2 : ∀ s : RS, ∀ m, (∀ r, s = .ok r → r.length ≤ m) → (rdRaw s).1.length ≤ m := by
    intro s m hm
    cases s with
    | error e => exact Nat.zero_le _
    | ok r =>
      have hr := hm r rfl
      rcases hp : rdRaw (.ok r) with ⟨raw, t⟩
      cases t with
      | error e =>
        have h0 := rdRaw_cases (.ok r)
        rcases h0 with ⟨e', _, h1⟩ | ⟨r', _, _, h1⟩ | ⟨r', _, _, h1⟩ <;> rw [hp] at h1 <;> cases h1 <;> exact Nat.zero_le _
      | ok t =>
        have := congrArg List.length (rdRaw_inv r hp)
        rw [rawW] at this
        simp only [List.length_append] at this
        show raw.length ≤ m
        omega
  refine h2 _ _ (fun r hr => ?_)
  have h1 : rdI (.ok core) = ((rdI (.ok core)).1, .ok r) := by rw [← hr]
  have := congrArg List.length (rdI_inv core h1)
  simp only [List.length_append] at this
  omega
/-- bytes.Equal, bytes.HasPrefix. -/
theorem bytesEqual_any (u v : Value) (a b : List UInt8) (w : World) (hu : Rv w u a.length (a.map vB)) (hv : Rv w v b.length (b.map vB)) :
    Calls Try.prog 116 #[u, v] w fun e w' => e = .returned (.bool (decide (a = b))) ∧ w = w' := by
  have h1 := fun w1 (h : Rv w1 u a.length (a.map vB)) => run_tostring (P := Try.prog) w1 49 9 5 Try.underlying49 Try.underlying5 Try.underlying9 u a h
  have h2 := fun w1 (h : Rv w1 v b.length (b.map vB)) => run_tostring (P := Try.prog) w1 49 9 5 Try.underlying49 Try.underlying5 Try.underlying9 v b h
  have h1 := h1 w hu
  have h2 := h2 w hv
  go_enter Try.func116, Try.ntmps116
  go_wp2_with fail
  go_ret
  refine ⟨ret_val (congrArg Value.bool ?_), rfl⟩
  rw [Bool.eq_iff_iff]
  simp
theorem take_eq_prefix {a b : List UInt8} : decide (b.take a.length = a) = a.isPrefixOf b := by
  by_cases hp : a <+: b
  · rw [List.isPrefixOf_iff_prefix.2 hp, decide_eq_true_eq]
    exact (List.prefix_iff_eq_take.1 hp).symm
  · have h1 : a.isPrefixOf b = false := by
      rw [Bool.eq_false_iff]; exact fun h => hp (List.isPrefixOf_iff_prefix.1 h)
    rw [h1, decide_eq_false_iff_not]
    exact fun e => hp (List.prefix_iff_eq_take.2 e.symm)
set_option maxHeartbeats 1000000 in
theorem hasPrefix_any (u v : Value) (b a : List UInt8) (w : World) (hu : Rv w u b.length (b.map vB)) (hv : Rv w v a.length (a.map vB)) :
    Calls Try.prog 101 #[u, v] w fun e w' => e = .returned (.bool (a.isPrefixOf b)) ∧ w = w' := by
  have hm := hu.len
  have hm2 := hv.len
  unfold maxLen at hm hm2
  by_cases hle : a.length ≤ b.length
  · obtain ⟨au, cu, rfl, hcu, H⟩ := hu.firsts a.length hle
    have H2 := H _ rfl
    rw [← take_eq_prefix]
    obtain ⟨av, cv, rfl, hcv, _⟩ := hv.opened
    have hlt : (b.take a.length).length = a.length := by rw [List.length_take]; omega
    have hE := fun w1 (h : Rv w1 (.slice au a.length cu) a.length ((b.map vB).take a.length)) (h2 : Rv w1 (.slice av a.length cv) a.length (a.map vB)) => bytesEqual_any (.slice au a.length cu) (.slice av a.length cv) (b.take a.length) a w1 (by rw [hlt, List.map_take]; exact h) h2
    have hcc : (a.length : Int) ≤ (cu : Int) := by omega
    have hcc0 : (0 : Int) ≤ (a.length : Int) := by omega
    have hcc1 : decide ((a.length : Int) ≤ (b.length : Int)) = true := decide_eq_true (by omega)
    have HE := Lib.hid hE
    clear hE H
    go_enter Try.func101, Try.ntmps101
    go_wp2_with fail
    refine (HE.out _ H2 hv).mono ?_
    rintro e w' ⟨rfl, rfl⟩
    go_wp2_with fail
    go_ret
    exact ⟨rfl, rfl⟩
  · have h1 : a.isPrefixOf b = false := by
      rw [Bool.eq_false_iff]; exact fun h => hle (List.isPrefixOf_iff_prefix.1 h).length_le
    rw [h1]
    obtain ⟨au, cu, rfl, hcu, _⟩ := hu.opened
    obtain ⟨av, cv, rfl, hcv, _⟩ := hv.opened
    have hcc1 : decide ((a.length : Int) ≤ (b.length : Int)) = false := decide_eq_false (by omega)
    go_enter Try.func101, Try.ntmps101
    go_wp2_with fail
    go_ret
    exact ⟨rfl, rfl⟩

/-- What first returns. -/
def FstPost (w : World) (n : Int) (o : Option (List UInt8)) (en : Ending) (w' : World) : Prop :=
  Below w.heap.size w w' ∧ match o with
    | none => en = .returned (.tuple #[.slice none 0 0, .int .i64 0, .bool false])
    | some raw => ∃ rv, en = .returned (.tuple #[rv, .int .i64 ((frameM n raw).length : Int), .bool true]) ∧ w'.ownsRow w.heap.size 5 1 rv raw.length (raw.map vB)

set_option maxRecDepth 20000 in
set_option maxHeartbeats 4000000 in
theorem first_any (v : Value) (b : List UInt8) (n : Int) (w : World) (hv : Rv w v b.length (b.map vB)) (hl : b.length ≤ 1000000000) (hn : -9223372036854775808 ≤ n ∧ n ≤ 9223372036854775807) :
    Calls Try.prog 90 #[v, .int .i64 n] w (FstPost w n (firstJ n b)) := by
  rw [← firstP_eq hn (by omega)]
  have HN := Lib.hid hn
  clear hn
  obtain ⟨ao, cap, rfl, hcap, H10⟩ := hv.firsts (min b.length 10) (by omega)
  have hb10 : (b.take 10).length = min b.length 10 := by rw [List.length_take]; omega
  have hR : ∀ k', k' = min b.length 10 → Rv w (.slice ao k' cap) (b.take 10).length ((b.take 10).map vB) := by
    rintro k' rfl
    have h := H10 _ rfl
    rw [hb10, List.map_take]
    have e : min b.length 10 = min 10 (b.map vB).length := by rw [List.length_map, Nat.min_comm]
    rw [List.take_eq_take_min, ← e]
    exact h
  clear H10 hb10
  have HR := Lib.hid hR
  clear hR
  go_enter Try.func90, Try.ntmps90
  have hP : firstP n b = let c := (rdU (.ok (b.take 10))).1
      let h := (uvar c).length
      if b.length < h ∨ b.length - h < c then none else
      let q := rdI (.ok ((b.drop h).take c))
      let p := rdRaw q.2
      if rdEnd p.2 ≠ 0 ∨ q.1 ≠ n then none else
      if (frameM n p.1).isPrefixOf b then some p.1 else none := rfl
  have HP := Lib.hid hP
  clear hP
  have hcb := rdU_bound (.ok (b.take 10))
  have h10 := uvar_len (rdU (.ok (b.take 10))).1
  have h01 := uvar_pos (rdU (.ok (b.take 10))).1
  go_upto_region 1 with fail
  go_cut [7] from 14 to 20 (fun nv wx => nv = .int .u64 ((rdU (.ok (b.take 10))).1 : Int) ∧ Below w.heap.size w wx)
  case first =>
    go_wp2_with fail
    all_goals
      refine (read_any _ (b.take 10) _ (HR.out _ (by omega)) (by rw [List.length_take]; omega)).mono ?_
      rintro e w1 ⟨br, vr, rfl, hbr, hvr, T1, B1⟩
      have hl1 := T1.lt
      clear HR HP
      go_wp2_with fail
      refine (ruint_any _ _ _ _ _ T1).mono ?_
      rintro e w2 ⟨rfl, T2, S2⟩
      have B2 := S2.bel B1 hbr hl1
      go_wp2_with fail
      go_meet
      exact ⟨rfl, B2⟩
  case rest =>
    obtain ⟨rfl, B2⟩ := hcut
    clear HR
    generalize (rdU (.ok (b.take 10))).1 = c at *
    have HCB := Lib.hid hcb
    clear hcb
    rename World => w2
    go_wp2_with fail
    go_loopw [8, 9] (fun hv rv wr => ∃ m r : Nat, hv = .int .i64 (m : Int) ∧ rv = .int .u64 (r : Int) ∧ r ≤ c ∧ Hid (m + (uvar r).length = (uvar c).length + 1) ∧ m ≤ 10 ∧ wr = w2) (fun _ rv _ => (intOf rv).toNat)
    case atStart => exact ⟨1, c, rfl, rfl, Nat.le_refl _, by show 1 + _ = _; omega, by omega, by first | rfl | trivial⟩
    case round =>
      obtain ⟨m, r, rfl, rfl, hrc, HM, hm, rfl⟩ := hrel
      by_cases hlt : 128 ≤ r
      · have hd : decide ((128 : Int) ≤ (r : Int)) = true := decide_eq_true (by omega)
        have hst : m + 1 + (uvar (r / 128)).length = (uvar c).length + 1 ∧ m + 1 ≤ 10 := by
          have h1 := HM.out
          rw [uvar_count hlt (by have := HCB.out; omega)] at h1
          have := uvar_pos (r / 128)
          omega
        have HS := Lib.hid hst.1
        have hm2 := hst.2
        clear hst
        go_wp2_with fail
        go_roundw
        case rel => exact ⟨m + 1, r / 128, by go_num, by go_num, by omega, HS, hm2, by first | rfl | trivial⟩
        case measure => simp [intOf]; omega
      · have hd : decide ((128 : Int) ≤ (r : Int)) = false := decide_eq_false (by omega)
        have hmh : m = (uvar c).length := by
          have h1 := HM.out
          rw [uvar_count1 (by omega)] at h1
          omega
        subst hmh
        generalize hH : (uvar c).length = h at *
        clear HM hlt hrc
        by_cases hbad : b.length < h ∨ b.length - h < c
        · go_wp2_with fail
          all_goals first
            | (exfalso; omega)
            | (go_ret3; rw [HP.out, if_pos hbad]; exact ⟨B2, rfl⟩)
        · have HP2 := HP.out
          rw [if_neg hbad] at HP2
          clear HP
          have HP := Lib.hid HP2
          have hg1 : h ≤ b.length := by omega
          have hg2 : (c : Int) ≤ (b.length : Int) - (h : Int) := by omega
          have hg3 : h + c ≤ b.length := by omega
          have hcl : ((b.drop h).take c).length = c := by rw [List.length_take, List.length_drop]; omega
          have hC : ∀ A k C, A = (if cap = h then ao else ao.map (·.add h)) → k = c → C = cap - h → Rv wr (.slice A k C) ((b.drop h).take c).length (((b.drop h).take c).map vB) := by
            intro A k C hA hk hC
            rw [hA, hk, hC]
            obtain ⟨a', c', e1, _, e3⟩ := (hv.below B2).sliced 1 h (h + c) (by omega) hg3
            cases e1
            rw [hcl, List.map_take, List.map_drop]
            simpa using e3
          have HC := Lib.hid hC
          have hrl := raw_le ((b.drop h).take c)
          rw [hcl] at hrl
          clear HP2 hbad hC hH
          generalize (b.drop h).take c = core at *
          go_upto_region 9 with fail
          go_cut [0, 10] from 14 to 48 (fun bv rv wx => bv = .slice ao b.length cap ∧ ∃ br vr, rv = .pointer (some ⟨br, 0, none⟩) ∧ w.heap.size ≤ br ∧ Rst wx br vr core (.ok core) ∧ Below w.heap.size w wx)
          case first =>
            go_wp2_with fail
            all_goals
              refine (read_any _ core _ (HC.out _ _ _ (by simp [*]) rfl (by omega)) (by rw [hcl]; omega)).mono ?_
              rintro e w3 ⟨br, vr, rfl, hbr, hvr, T3, B3⟩
              go_wp2_with fail
              go_meet
              exact ⟨by simp [*], br, vr, rfl, Nat.le_trans B2.size hbr, T3, bel B2 B3⟩
          case rest =>
          obtain ⟨rfl, br, vr, rfl, hwb, T3, C3⟩ := hcut
          have hl3 := T3.lt
          clear B2
          go_wp2_with fail
          refine (rint_any _ _ _ _ _ T3).mono ?_
          rintro e w4 ⟨rfl, T4, S4⟩
          have C4 := S4.bel C3 hwb hl3
          have hl4 := T4.lt
          clear T3 S4 C3 hl3
          generalize rdI (.ok core) = q at *
          obtain ⟨qn, qs⟩ := q
          simp only at T4 hrl
          go_wp2_with fail
          refine (rraw_any _ _ _ _ _ T4 (by omega)).mono ?_
          rintro e w5 ⟨v5, rfl, O5, T5, S5⟩
          have C5 := S5.bel C4 hwb hl4
          have O5 := own_base O5 C4.size
          clear T4 S5 C4 hl4
          generalize rdRaw qs = p at *
          obtain ⟨raw, ps⟩ := p
          simp only at T5 O5 hrl HP
          rw [List.length_map] at O5
          obtain ⟨k5, a5, c5, rfl⟩ := own_shape O5
          go_wp2_with fail
          refine (rend_any _ _ _ _ _ T5).mono ?_
          rintro e w6 ⟨rfl, n6, h6⟩
          have C6 : Below w.heap.size w w6 := by rw [h6]; exact belD C5 n6
          have O6 : w6.ownsRow w.heap.size 5 1 (.slice a5 k5 c5) raw.length (raw.map vB) := by rw [h6]; exact own_below O5 (belD (Below.refl _ _) n6)
          have V6 := hv.below C6
          clear h6 T5 C5 O5
          have HP3 := HP.out
          by_cases he : rdEnd ps = 0
          · have hb1 : (rdEnd ps == 0) = true := beq_iff_eq.2 he
            by_cases hqn : qn = n
            · subst hqn
              rw [if_neg (show ¬ (rdEnd ps ≠ 0 ∨ qn ≠ qn) from fun hh => hh.elim (fun h1 => h1 he) (fun h1 => h1 rfl))] at HP3
              clear HP
              have HP := Lib.hid HP3
              clear HP3
              have hb2 : (qn == qn) = true := beq_self_eq_true qn
              go_wp2_with fail
              refine (frame_any _ raw qn _ (Rv.of_own O6) (by omega) HN.out).mono ?_
              rintro e w7 ⟨v7, rfl, M7⟩
              have C7 := bel C6 M7.2
              have O7 := own_below O6 M7.2
              have V7 := V6.below M7.2
              have R7 := M7.rv
              rw [List.length_map] at R7
              obtain ⟨a7, c7, e7, _, _⟩ := R7.opened
              subst e7
              clear M7 C6 O6 V6
              generalize hfr : frameM qn raw = fr at *
              go_wp2_with fail
              refine (hasPrefix_any _ _ b fr _ V7 R7).mono ?_
              rintro e w8 ⟨rfl, rfl⟩
              have HP3 := HP.out
              cases hpf : fr.isPrefixOf b
              · rw [hpf, if_neg (by decide)] at HP3
                go_wp2_with fail
                go_ret3
                rw [HP3]
                exact ⟨C7, rfl⟩
              · rw [hpf, if_pos rfl] at HP3
                go_wp2_with fail
                go_ret3
                rw [HP3]
                exact ⟨C7, (.slice a5 k5 c5), by rw [hfr]; rfl, O7⟩
            · have hb2 : (qn == n) = false := beq_eq_false_iff_ne.2 hqn
              rw [if_pos (.inr hqn)] at HP3
              go_wp2_with fail
              go_ret3
              rw [HP3]
              exact ⟨C6, rfl⟩
          · have hb1 : (rdEnd ps == 0) = false := beq_eq_false_iff_ne.2 he
            rw [if_pos (.inl he)] at HP3
            go_wp2_with fail
            go_ret3
            rw [HP3]
            exact ⟨C6, rfl⟩
end Go.Proofs.Ytpehnggglolnoaa
