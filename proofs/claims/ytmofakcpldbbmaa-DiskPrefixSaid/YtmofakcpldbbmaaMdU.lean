/- A crash of a disk with one file, plainly. -/
import Derived.Test.YtmofakcpldbbmaaMdS
namespace Go.Proofs.Ytmofakcpldbbmaa
open Go.RowKit

def Only (D : Dk) (k : Int) : Prop := ∀ j, j ≠ k → (D.fs j).1 = []
theorem only_files {D : Dk} {k : Int} (h : Only D k) (hk : 0 ≤ k ∧ k < 64) (hne : (D.fs k).1 ≠ []) : D.files = [k] := by
  have hp : D.files.Perm [k] := (List.perm_ext_iff_of_nodup (files_nodup D) (by simp)).2 (fun j => by
    rw [files_mem, List.mem_singleton]
    constructor
    · rintro ⟨_, _, h3⟩
      exact Decidable.byContradiction fun e => h3 (h j e)
    · rintro rfl
      exact ⟨hk.1, hk.2, hne⟩)
  exact List.perm_singleton.1 hp
theorem only_files0 {D : Dk} {k : Int} (h : Only D k) (hne : (D.fs k).1 = []) : D.files = [] := by
  refine List.eq_nil_iff_forall_not_mem.2 (fun j hj => ?_)
  obtain ⟨_, _, h3⟩ := (files_mem D j).1 hj
  by_cases e : j = k
  · subst e; exact h3 hne
  · exact h3 (h j e)
/-- What a crash leaves of a disk's only file. -/
theorem crash_one {D : Dk} (h : DOk D) {k : Int} (ho : Only D k) (hk : 0 ≤ k ∧ k < 64) {bs : List UInt8} {d t : Nat} (hb : (D.fs k).1 = bs) (hd : (D.fs k).2 = d) (keep : List Int) (ht : keptN keep 0 (bs.length - d) = t) (flip : Int) :
    ((D.crash keep flip).fs k).1 = if 0 ≤ flip ∧ 0 < t then flipB (bs.take (d + t)) (8 * d + flip.toNat % (8 * t)) else bs.take (d + t) := by
  have hdl := h.dur k
  rw [hb, hd] at hdl
  have htl := keptN_le keep 0 (bs.length - d)
  rw [ht] at htl
  by_cases hne : bs = []
  · subst hne
    have hf := only_files0 ho hb
    have h1 : ((D.crash keep flip).fs k).1 = (D.fs k).1 := by
      have hc : D.cutI keep [] 0 = (D, 0) := rfl
      unfold Dk.crash
      rw [hf]
      show ((if 0 ≤ flip ∧ 0 < (D.cutI keep [] 0).2 then (D.cutI keep [] 0).1.invertL (D.cutI keep [] 0).1.files (flip.toNat % (8 * (D.cutI keep [] 0).2)) else (D.cutI keep [] 0).1).fs k).1 = _
      rw [hc, if_neg (by omega)]
    rw [h1, hb, if_neg (by rw [List.length_nil] at htl; omega), List.take_nil]
  · have hf := only_files ho hk (by rw [hb]; exact hne)
    have hc : D.cutI keep [k] 1 = (D.put k (bs.take (d + t)) d, 0 + t) := by
      show Prod.mk (D.put k ((D.fs k).1.take ((D.fs k).2 + keptN keep 0 ((D.fs k).1.length - (D.fs k).2))) (D.fs k).2) (0 + keptN keep 0 ((D.fs k).1.length - (D.fs k).2)) = _
      rw [hb, hd, ht]
    have hcr : ((D.crash keep flip).fs k).1 = ((if 0 ≤ flip ∧ 0 < 0 + t then (D.put k (bs.take (d + t)) d).invertL (D.put k (bs.take (d + t)) d).files (flip.toNat % (8 * (0 + t))) else D.put k (bs.take (d + t)) d).fs k).1 := by
      unfold Dk.crash
      rw [hf]
      show ((if 0 ≤ flip ∧ 0 < (D.cutI keep [k] 1).2 then (D.cutI keep [k] 1).1.invertL (D.cutI keep [k] 1).1.files (flip.toNat % (8 * (D.cutI keep [k] 1).2)) else (D.cutI keep [k] 1).1).fs k).1 = _
      rw [hc]
    rw [hcr, Nat.zero_add]
    by_cases hfl : 0 ≤ flip ∧ 0 < t
    · rw [if_pos hfl, if_pos hfl]
      have hlen : (bs.take (d + t)).length = d + t := by rw [List.length_take]; omega
      have hne2 : bs.take (d + t) ≠ [] := fun e => by rw [e, List.length_nil] at hlen; omega
      have ho2 : Only (D.put k (bs.take (d + t)) d) k := fun j hj => by rw [put_fs1 _ _ _ hj]; exact ho j hj
      have hf2 := only_files ho2 hk (by rw [put_fs0]; exact hne2)
      rw [hf2, Dk.invertL, put_fs0]
      have hm := Nat.mod_lt flip.toNat (show 0 < 8 * t by omega)
      simp only [if_neg hne2, hlen]
      rw [if_pos (by omega), put_fs0]
    · rw [if_neg hfl, if_neg hfl, put_fs0]
end Go.Proofs.Ytmofakcpldbbmaa
