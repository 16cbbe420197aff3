/- Package journal, plain: an inverted bit behind the length is detected. -/
import Derived.Test.YtpehnggglolnoaaJrnD
namespace Go.Proofs.Ytpehnggglolnoaa
open Go.RowKit

theorem detect {own : List UInt8} (hl : own.length ≤ 1000) (i : Nat) (y : UInt8) (hi : (uvar (coreM 0 own).length).length ≤ i) (hi2 : i < (frameM 0 own).length) (hy : (frameM 0 own)[i]? ≠ some y) : firstJ 0 ((frameM 0 own).set i y) = none := by
  cases hf : firstJ 0 ((frameM 0 own).set i y) with
  | none => rfl
  | some raw =>
    exfalso
    obtain ⟨t, ht⟩ := firstJ_pre hf
    have hz : (zvar 0).length ≤ 10 := uvar_len _
    have hu := uvar_len own.length
    have hcl : (coreM 0 own).length ≤ 1020 := by rw [coreM, rawW]; simp only [List.length_append]; omega
    have hfl := congrArg List.length ht
    rw [List.length_append, List.length_set] at hfl
    have hcl' := frameM_core 0 raw
    have hF : frameM 0 own = uvar (coreM 0 own).length ++ (coreM 0 own ++ uvar (bytesB frameL (coreM 0 own)).toNat) := by rw [frameM, rawW, List.append_assoc]
    have hF' : frameM 0 raw = uvar (coreM 0 raw).length ++ (coreM 0 raw ++ uvar (bytesB frameL (coreM 0 raw)).toNat) := by rw [frameM, rawW, List.append_assoc]
    have hul := uvar_len (bytesB frameL (coreM 0 own)).toNat
    have hFl : (frameM 0 own).length ≤ 1050 := by
      have := uvar_len (coreM 0 own).length
      rw [hF]; simp only [List.length_append]; omega
    have hlt : (bytesB frameL (coreM 0 own)).toNat < 18446744073709551616 := (bytesB frameL (coreM 0 own)).isLt
    have hlt' : (bytesB frameL (coreM 0 raw)).toNat < 18446744073709551616 := (bytesB frameL (coreM 0 raw)).isLt
    obtain ⟨HO, eO⟩ : ∃ h, bytesB frameL (coreM 0 own) = h := ⟨_, rfl⟩
    obtain ⟨HR, eR⟩ : ∃ h, bytesB frameL (coreM 0 raw) = h := ⟨_, rfl⟩
    rw [eO] at hF hul hlt
    rw [eR] at hF' hlt'
    have e1 : (frameM 0 own).set i y = uvar (coreM 0 own).length ++ (coreM 0 own ++ uvar (HO).toNat).set (i - (uvar (coreM 0 own).length).length) y := by
      rw [hF, List.set_append_right _ _ hi]
    rw [e1, hF', List.append_assoc] at ht
    have r1 := rdU_uvar (coreM 0 raw).length (coreM 0 raw ++ uvar (HR).toNat ++ t) (by omega)
    have r2 := rdU_uvar (coreM 0 own).length ((coreM 0 own ++ uvar (HO).toNat).set (i - (uvar (coreM 0 own).length).length) y) (by omega)
    rw [ht, r2] at r1
    simp only [Prod.mk.injEq, Except.ok.injEq] at r1
    obtain ⟨q1, q2⟩ := r1
    rw [hF] at hi2 hy
    generalize hA : (uvar (coreM 0 own).length).length = A at *
    obtain ⟨j, rfl⟩ : ∃ j, i = A + j := ⟨i - A, by omega⟩
    rw [List.getElem?_append_right (by omega), hA] at hy
    rw [List.length_append, hA, List.length_append] at hi2
    simp only [Nat.add_sub_cancel_left] at q2 hy
    by_cases hj : j < (coreM 0 own).length
    · rw [List.set_append_left _ _ hj, List.append_assoc] at q2
      rw [List.getElem?_append_left hj] at hy
      obtain ⟨s1, s2⟩ := List.append_inj q2 (by rw [List.length_set]; exact q1)
      have r3 := rdU_uvar (HR).toNat t hlt'
      have r4 := rdU_uvar (HO).toNat [] hlt
      rw [List.append_nil, s2, r3] at r4
      simp only [Prod.mk.injEq] at r4
      have e3 : HR = HO := BitVec.eq_of_toNat_eq r4.1
      rw [← eO, ← eR, ← s1] at e3
      refine group_ne (L := frameL) (a := (coreM 0 own).set j y) (b := coreM 0 own) (i := j / 8) (by rw [List.length_set]) (fun k hk => ?_) (fun e => ?_) e3
      · rw [List.getElem?_set_ne (fun e => hk (by rw [e]))]
      · have := congrArg (·[j]?) e
        simp only [List.getElem?_set_self hj] at this
        exact hy this.symm
    · rw [List.set_append_right _ _ (by omega), List.append_assoc] at q2
      rw [List.getElem?_append_right (by omega)] at hy
      obtain ⟨s1, s2⟩ := List.append_inj q2 q1
      have e4 : HR = HO := by rw [← eO, ← eR, s1]
      rw [e4] at s2
      have hl2 := congrArg List.length s2
      rw [List.length_set, List.length_append] at hl2
      have ht0 : t = [] := List.eq_nil_of_length_eq_zero (by omega)
      subst ht0
      rw [List.append_nil] at s2
      have := congrArg (·[j - (coreM 0 own).length]?) s2
      simp only [List.getElem?_set_self (show j - (coreM 0 own).length < (uvar (HO).toNat).length by omega)] at this
      exact hy this.symm
theorem xor_ne (c m : UInt8) (h : m ≠ 0) : c ^^^ m ≠ c := fun e => h (by
  have : c ^^^ m = c ^^^ 0 := by rw [e]; simp
  have h2 := congrArg (c ^^^ ·) this
  simpa [← UInt8.xor_assoc] using h2)
end Go.Proofs.Ytpehnggglolnoaa
