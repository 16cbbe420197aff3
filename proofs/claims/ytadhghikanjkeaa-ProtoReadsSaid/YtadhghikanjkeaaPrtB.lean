/- Package proto, plain: frames that are altered or cut, and what stays when bytes follow. -/
import Derived.Test.YtadhghikanjkeaaPrtA
namespace Go.Proofs.Ytadhghikanjkeaa
open Go.RowKit

theorem lenH_ne {m n : Nat} (hm : m < 4294967296) (hn : n < 4294967296) (h : m ≠ n) : lenH m ≠ lenH n := by
  intro e
  unfold lenH at e
  have h1 := lowL_inj (by have := (sumI lenL [(m : Int)]).isLt; simpa using this) (by have := (sumI lenL [(n : Int)]).isLt; simpa using this) e
  have h2 : sumI lenL [(m : Int)] = sumI lenL [(n : Int)] := BitVec.eq_of_toNat_eq h1
  refine sumI_set_ne (L := lenL) (us := [(m : Int)]) (k := 0) (x := (m : Int)) (y := (n : Int)) rfl (fun e2 => ?_) h2
  have := ofInt_inj (by omega) (by omega) e2
  omega
theorem coreH_ne {a b : List UInt8} {i : Nat} (hl : a.length = b.length) (hd : ∀ j, j / 8 ≠ i → a[j]? = b[j]?) (hne : a ≠ b) : coreH a ≠ coreH b := by
  intro e
  unfold coreH at e
  have h1 := lowL_inj (by have := (bytesB msgL a).isLt; simpa using this) (by have := (bytesB msgL b).isLt; simpa using this) e
  exact group_ne (L := msgL) hl hd hne (BitVec.eq_of_toNat_eq h1)
theorem set_ne {l : List UInt8} {i : Nat} {y : UInt8} (hi : i < l.length) (h : l[i]? ≠ some y) : l.set i y ≠ l := by
  intro e
  have := congrArg (·[i]?) e
  simp only [List.getElem?_set_self hi] at this
  exact h this.symm
/-- The four parts of a frame, each of them altered. -/
theorem decP_parts (a h c t r : List UInt8) (ha : a.length = 4) (hh : h.length = 8) (ht : t.length = 8) (hn : leVal a = c.length) (hc : c.length ≤ 1048576) :
    decP (a ++ (h ++ (c ++ (t ++ r)))) = if lenH c.length ≠ h then (Msg.zero, (0 : Nat), (13 : Int)) else if coreH c ≠ t then (Msg.zero, 0, 13) else match decC c with
      | none => (Msg.zero, 0, 2)
      | some m => (m, c.length + 20, 0) := by
  have e1 : (a ++ (h ++ (c ++ (t ++ r)))).take 4 = a := by rw [← ha, List.take_left]
  have e3 : (a ++ (h ++ (c ++ (t ++ r)))).drop 4 = h ++ (c ++ (t ++ r)) := by rw [← ha, List.drop_left]
  have e4 : ((a ++ (h ++ (c ++ (t ++ r)))).drop 4).take 8 = h := by rw [e3, ← hh, List.take_left]
  have e5 : (a ++ (h ++ (c ++ (t ++ r)))).drop 12 = c ++ (t ++ r) := by
    have : (a ++ (h ++ (c ++ (t ++ r)))).drop 12 = ((a ++ (h ++ (c ++ (t ++ r)))).drop 4).drop 8 := by rw [List.drop_drop]
    rw [this, e3, ← hh, List.drop_left]
  have e6 : ((a ++ (h ++ (c ++ (t ++ r)))).drop 12).take c.length = c := by rw [e5, List.take_left]
  have e7 : ((a ++ (h ++ (c ++ (t ++ r)))).drop (c.length + 12)).take 8 = t := by
    have : (a ++ (h ++ (c ++ (t ++ r)))).drop (c.length + 12) = ((a ++ (h ++ (c ++ (t ++ r)))).drop 12).drop c.length := by rw [List.drop_drop, Nat.add_comm]
    rw [this, e5, List.drop_left, ← ht, List.take_left]
  have hl : (a ++ (h ++ (c ++ (t ++ r)))).length = c.length + 20 + r.length := by simp only [List.length_append]; omega
  unfold decP
  simp only [e1, hn, e4, e6, e7, hl]
  rw [if_neg (by omega)]
  by_cases h1 : lenH c.length ≠ h
  · rw [if_pos h1, if_pos h1]
  · rw [if_neg h1, if_neg h1, if_neg (by omega), if_neg (by omega)]
    rfl
theorem decP_len (a h r : List UInt8) (ha : a.length = 4) (hh : h.length = 8) (hne : lenH (leVal a) ≠ h) : decP (a ++ (h ++ r)) = (Msg.zero, 0, 13) := by
  have e1 : (a ++ (h ++ r)).take 4 = a := by rw [← ha, List.take_left]
  have e3 : (a ++ (h ++ r)).drop 4 = h ++ r := by rw [← ha, List.drop_left]
  have e4 : ((a ++ (h ++ r)).drop 4).take 8 = h := by rw [e3, ← hh, List.take_left]
  have hl : (a ++ (h ++ r)).length = 12 + r.length := by simp only [List.length_append]; omega
  unfold decP
  simp only [e1, e4, hl]
  rw [if_neg (by omega), if_pos hne]
/-- One byte altered. -/
theorem decP_bent (c r : List UInt8) (hc : c.length ≤ 1048576) (k : Nat) (y : UInt8) (hk : k < (framedP c).length) (hy : (framedP c)[k]? ≠ some y) : decP ((framedP c).set k y ++ r) = (Msg.zero, 0, 13) := by
  have hl4 : (lowL 4 c.length).length = 4 := lowL_len _ _
  have hl8 := lenH_len c.length
  have ht8 := coreH_len c
  have hv : leVal (lowL 4 c.length) = c.length := by rw [leVal_low]; exact Nat.mod_eq_of_lt (by omega)
  rw [framedP_len] at hk
  rw [framedP] at hy ⊢
  by_cases h1 : k < 4
  · rw [List.getElem?_append_left (by omega)] at hy
    rw [List.set_append_left _ _ (by omega), List.append_assoc, List.append_assoc]
    have hne := set_ne (by omega) hy
    refine decP_len _ _ _ (by rw [List.length_set]; exact hl4) hl8 ?_
    have hlt := leVal_lt ((lowL 4 c.length).set k y)
    rw [List.length_set, hl4] at hlt
    refine lenH_ne (by simpa using hlt) (by omega) (fun e => hne ?_)
    have h2 := low_leVal ((lowL 4 c.length).set k y)
    rw [List.length_set, hl4, e] at h2
    exact h2.symm
  · rw [List.getElem?_append_right (by omega), hl4] at hy
    rw [List.set_append_right _ _ (by omega), hl4, List.append_assoc]
    by_cases h2 : k < 12
    · rw [List.getElem?_append_left (by omega)] at hy
      rw [List.set_append_left _ _ (by omega), List.append_assoc]
      have hne := set_ne (by omega) hy
      refine decP_len _ _ _ hl4 (by rw [List.length_set]; exact hl8) ?_
      rw [hv]
      exact fun e => hne e.symm
    · rw [List.getElem?_append_right (by omega), hl8] at hy
      rw [List.set_append_right _ _ (by omega), hl8, List.append_assoc]
      by_cases h3 : k - 4 - 8 < c.length
      · rw [List.getElem?_append_left h3] at hy
        rw [List.set_append_left _ _ h3, List.append_assoc]
        have hne := set_ne h3 hy
        have hcl : (c.set (k - 4 - 8) y).length = c.length := List.length_set
        rw [decP_parts _ _ _ _ _ hl4 hl8 ht8 (by rw [hv, hcl]) (by omega), hcl, if_neg (by simp), if_pos]
        refine coreH_ne (i := (k - 4 - 8) / 8) hcl (fun j hj => ?_) hne
        rw [List.getElem?_set_ne (fun e => hj (by rw [e]))]
      · rw [List.getElem?_append_right (by omega)] at hy
        rw [List.set_append_right _ _ (by omega), List.append_assoc]
        have hne := set_ne (by omega) hy
        rw [decP_parts _ _ _ _ _ hl4 hl8 (by rw [List.length_set]; exact ht8) hv hc, if_neg (by simp), if_pos (fun e => hne e.symm)]
/-- A proper beginning. -/
theorem decP_cut (c : List UInt8) (hc : c.length ≤ 1048576) (k : Nat) (hk : k < (framedP c).length) : decP ((framedP c).take k) = (Msg.zero, 0, 3) := by
  have hl4 : (lowL 4 c.length).length = 4 := lowL_len _ _
  have hl8 := lenH_len c.length
  have ht8 := coreH_len c
  have hv : leVal (lowL 4 c.length) = c.length := by rw [leVal_low]; exact Nat.mod_eq_of_lt (by omega)
  have hl : ((framedP c).take k).length = k := by rw [List.length_take]; omega
  rw [framedP_len] at hk
  unfold decP
  rw [hl]
  by_cases h1 : k < 12
  · rw [if_pos h1]
  · have e1 : ((framedP c).take k).take 4 = lowL 4 c.length := by
      have := List.take_left (l₁ := lowL 4 c.length) (l₂ := lenH c.length ++ (c ++ coreH c))
      rw [hl4] at this
      rw [List.take_take, Nat.min_eq_left (by omega), framedP]
      exact this
    have e3 : (((framedP c).take k).drop 4).take 8 = lenH c.length := by
      rw [List.drop_take, List.take_take, Nat.min_eq_left (by omega), framedP]
      have : (lowL 4 c.length ++ (lenH c.length ++ (c ++ coreH c))).drop 4 = lenH c.length ++ (c ++ coreH c) := by
        have := List.drop_left (l₁ := lowL 4 c.length) (l₂ := lenH c.length ++ (c ++ coreH c))
        rwa [hl4] at this
      rw [this]
      have := List.take_left (l₁ := lenH c.length) (l₂ := c ++ coreH c)
      rwa [hl8] at this
    rw [if_neg h1]
    simp only [e1, hv, e3]
    rw [if_neg (by simp), if_neg (by omega), if_pos (by omega)]
/-- What more bytes leave of an answer. -/
theorem decP_more (b t : List UInt8) (h : (decP b).2.2 ≠ 3) : decP (b ++ t) = decP b := by
  by_cases h1 : b.length < 12
  · exact absurd (by unfold decP; rw [if_pos h1]) h
  have e1 : (b ++ t).take 4 = b.take 4 := List.take_append_of_le_length (by omega)
  have e2 : ((b ++ t).drop 4).take 8 = (b.drop 4).take 8 := by rw [List.drop_append_of_le_length (by omega), List.take_append_of_le_length (by rw [List.length_drop]; omega)]
  have hl : ¬ (b ++ t).length < 12 := by rw [List.length_append]; omega
  unfold decP at h ⊢
  rw [if_neg h1] at h ⊢
  rw [if_neg hl]
  simp only [e1, e2] at h ⊢
  by_cases h2 : lenH (leVal (b.take 4)) ≠ (b.drop 4).take 8
  · rw [if_pos h2, if_pos h2]
  rw [if_neg h2] at h ⊢
  rw [if_neg h2]
  by_cases h3 : 1048576 < leVal (b.take 4)
  · rw [if_pos h3, if_pos h3]
  rw [if_neg h3] at h ⊢
  rw [if_neg h3]
  by_cases h4 : b.length < leVal (b.take 4) + 20
  · rw [if_pos h4] at h; exact absurd rfl h
  have h5 : ¬ (b ++ t).length < leVal (b.take 4) + 20 := by rw [List.length_append]; omega
  rw [if_neg h4, if_neg h5]
  have e3 : ((b ++ t).drop 12).take (leVal (b.take 4)) = (b.drop 12).take (leVal (b.take 4)) := by rw [List.drop_append_of_le_length (by omega), List.take_append_of_le_length (by rw [List.length_drop]; omega)]
  have e4 : ((b ++ t).drop (leVal (b.take 4) + 12)).take 8 = (b.drop (leVal (b.take 4) + 12)).take 8 := by rw [List.drop_append_of_le_length (by omega), List.take_append_of_le_length (by rw [List.length_drop]; omega)]
  rw [e3, e4]
theorem decP_size (b : List UInt8) (h : (decP b).2.2 = 0) : 20 ≤ (decP b).2.1 ∧ (decP b).2.1 ≤ b.length := by
  unfold decP at h ⊢
  by_cases h1 : b.length < 12
  · rw [if_pos h1] at h; exact absurd h (by decide)
  rw [if_neg h1] at h ⊢
  simp only at h ⊢
  by_cases h2 : lenH (leVal (b.take 4)) ≠ (b.drop 4).take 8
  · rw [if_pos h2] at h; exact absurd h (by decide)
  rw [if_neg h2] at h ⊢
  by_cases h3 : 1048576 < leVal (b.take 4)
  · rw [if_pos h3] at h; exact absurd h (by decide)
  rw [if_neg h3] at h ⊢
  by_cases h4 : b.length < leVal (b.take 4) + 20
  · rw [if_pos h4] at h; exact absurd h (by decide)
  rw [if_neg h4] at h ⊢
  by_cases h5 : coreH ((b.drop 12).take (leVal (b.take 4))) ≠ (b.drop (leVal (b.take 4) + 12)).take 8
  · rw [if_pos h5] at h; exact absurd h (by decide)
  rw [if_neg h5] at h ⊢
  cases hd : decC ((b.drop 12).take (leVal (b.take 4))) with
  | none => rw [hd] at h; simp at h
  | some m => simp only; omega
end Go.Proofs.Ytadhghikanjkeaa
