/- The law DiskPrefix. -/
import Derived.Test.YtmofakcpldbbmaaMdU
import Derived.Deep.CutBlock
import Derived.Deep.CutRange
namespace Go.Proofs.Ytmofakcpldbbmaa
open Go.RowKit

/-- A list of byte slices: its cells, and what each reads as. -/
def LsR (w : World) (v : Value) (L : List (List UInt8)) : Prop :=
  ∃ us : List Value, Rv w v L.length us ∧ us.length = L.length ∧ ∀ i (h : i < L.length) u, us[i]? = some u → Rv w u L[i].length (L[i].map vB)
theorem LsR.below {w w' : World} {v : Value} {L : List (List UInt8)} (h : LsR w v L) (hb : Below w.heap.size w w') : LsR w' v L := by
  obtain ⟨us, h1, h2, h3⟩ := h
  exact ⟨us, h1.below hb, h2, fun i hi u hu => (h3 i hi u hu).below hb⟩
theorem LsR.at {w : World} {v : Value} {L : List (List UInt8)} (h : LsR w v L) (i : Nat) (hi : i < L.length) :
    ∃ b off cap u, v = .slice (some ⟨b, off, none⟩) L.length cap ∧ w.cell? ⟨b, off + i, none⟩ = some u ∧ Rv w u L[i].length (L[i].map vB) := by
  obtain ⟨us, ⟨ao, cap, rfl, _, _, _, hrd⟩, h2, h3⟩ := h
  have hu : us[i]? = some us[i] := List.getElem?_eq_getElem (by omega)
  obtain ⟨b, off, rfl, hc⟩ := hrd.cell hu
  exact ⟨b, off, cap, us[i], rfl, hc, h3 i hi _ hu⟩
theorem rv_cut2 {W : World} {a : Option Addr} {n c : Nat} {l : List UInt8} (h : Rv W (.slice a n c) n (l.map vB)) (s : Nat) (hs : s ≤ n) : Rv W (.slice a s c) s ((l.take s).map vB) := by
  obtain ⟨ao, cap, e, _, hF⟩ := h.firsts s hs
  injection e with e1 e2 e3
  subst e1 e3
  rw [List.map_take]
  exact hF s rfl
theorem only_used2 {D : Dk} {k : Int} (h : Only D k) (hk : 0 ≤ k ∧ k < 64) : D.used = (D.fs k).1.length := by
  have h1 := D.used_put k [] 0 hk.1 hk.2
  have h2 : (D.put k [] 0).used = 0 := by
    have : (fun (i : Nat) => ((D.put k [] 0).fs (i : Int)).1.length) = fun _ => 0 := funext fun i => by
      by_cases e : (i : Int) = k
      · rw [e, put_fs0]; rfl
      · rw [put_fs1 _ _ _ e, h _ e]; rfl
    show sumL (fun (i : Nat) => ((D.put k [] 0).fs (i : Int)).1.length) 64 = 0
    rw [this]
    decide
  rw [h2, List.length_nil] at h1
  omega
/-- The disk while it is written to. -/
structure PreSt (E : Dk) (all : List UInt8) (firm : Nat) : Prop where
  bytes : (E.fs 9).1 = all
  dur : (E.fs 9).2 = firm
  only : Only E 9
  room : E.room = 1000
  on : E.off = false
  armed : E.armed = false
  le : firm ≤ all.length
theorem PreSt.append {E : Dk} {all : List UInt8} {firm : Nat} (h : PreSt E all firm) (b : List UInt8) (hb : all.length + b.length ≤ 1000) : (E.append 9 b).1 = 0 ∧ PreSt (E.append 9 b).2 (all ++ b) firm := by
  have hu := only_used2 h.only (by decide)
  have hf : E.fails = E := by unfold Dk.fails; rw [h.armed]; rfl
  have hfb : E.failsB = false := by unfold Dk.failsB; rw [h.armed]; rfl
  have e : E.append 9 b = (0, E.put 9 (all ++ b) firm) := by
    unfold Dk.append
    rw [if_neg (by omega), h.on, if_neg (by simp), if_neg (by rw [h.room, hu, h.bytes]; omega), hf, hfb, h.bytes, h.dur]
    rfl
  rw [e]
  refine ⟨rfl, ?_, ?_, fun j hj => ?_, h.room, h.on, h.armed, by have := h.le; rw [List.length_append]; omega⟩
  · show ((E.put 9 _ _).fs 9).1 = _
    rw [put_fs0]
  · show ((E.put 9 _ _).fs 9).2 = _
    rw [put_fs0]
    show (if _ then _ else _) = _
    split
    · rename_i e2
      have := h.le
      rw [(List.append_eq_nil_iff.1 e2).1, List.length_nil] at this
      omega
    · rfl
  · show ((E.put 9 _ _).fs j).1 = _
    rw [put_fs1 _ _ _ hj]
    exact h.only j hj
theorem PreSt.sync {E : Dk} {all : List UInt8} {firm : Nat} (h : PreSt E all firm) : PreSt E.sync.2 all all.length := by
  have hf : E.fails = E := by unfold Dk.fails; rw [h.armed]; rfl
  have hfb : E.failsB = false := by unfold Dk.failsB; rw [h.armed]; rfl
  have e : E.sync = (0, E.harden) := by
    unfold Dk.sync
    rw [h.on, hfb, hf]
    rfl
  rw [e]
  exact ⟨h.bytes, by show (E.fs 9).1.length = _; rw [h.bytes], fun j hj => h.only j hj, h.room, h.on, h.armed, Nat.le_refl _⟩
/-- How many bits differ so far. -/
def bitsTo (spot : Option Nat) (i : Nat) : Nat := match spot with
  | none => 0
  | some q => if q < i then 1 else 0
/-- x is all, or all with one bit of the byte q inverted. -/
def DiffAt (x all : List UInt8) (n : Nat) (spot : Option Nat) : Prop := ∀ i, i < n → ∃ a b : UInt8, x[i]? = some a ∧ all[i]? = some b ∧ ((spot ≠ some i ∧ a ^^^ b = 0) ∨ (spot = some i ∧ ∃ e, e < 8 ∧ (a ^^^ b).toNat = 2 ^ e))
theorem mask_pow (r : Nat) (h : r < 8) : (maskB r).toNat = 2 ^ (7 - r) := by
  have h8 : r = 0 ∨ r = 1 ∨ r = 2 ∨ r = 3 ∨ r = 4 ∨ r = 5 ∨ r = 6 ∨ r = 7 := by omega
  rcases h8 with h | h | h | h | h | h | h | h <;> subst h <;> decide
theorem diff_same (all : List UInt8) (n : Nat) (h : n ≤ all.length) : DiffAt (all.take n) all n none := fun i hi => by
  obtain ⟨b, hb⟩ : ∃ b, all[i]? = some b := ⟨_, List.getElem?_eq_getElem (by omega)⟩
  exact ⟨b, b, by rw [List.getElem?_take, if_pos hi, hb], hb, .inl ⟨by simp, UInt8.xor_self⟩⟩
theorem diff_flip (all : List UInt8) (n q : Nat) (h : n ≤ all.length) : DiffAt (flipB (all.take n) q) all n (some (q / 8)) := fun i hi => by
  obtain ⟨b, hb⟩ : ∃ b, all[i]? = some b := ⟨_, List.getElem?_eq_getElem (by omega)⟩
  have ht : (all.take n)[i]? = some b := by rw [List.getElem?_take, if_pos hi, hb]
  by_cases e : q / 8 = i
  · subst e
    refine ⟨b ^^^ maskB (q % 8), b, flip_at _ q b ht, hb, .inr ⟨rfl, 7 - q % 8, by omega, ?_⟩⟩
    rw [UInt8.xor_comm b, UInt8.xor_assoc, UInt8.xor_self, UInt8.xor_zero]
    exact mask_pow _ (Nat.mod_lt _ (by omega))
  · refine ⟨b, b, ?_, hb, .inl ⟨fun e2 => e (Option.some.inj e2), UInt8.xor_self⟩⟩
    unfold flipB
    rw [List.getElem?_modify]
    simp [e, ht]
/-- What is read. -/
theorem pre_read {E : Dk} (hok : DOk E) {all : List UInt8} {firm t : Nat} (h : PreSt E all firm) (keep flip : Int) (ht : keptN [keep] 0 (all.length - firm) = t) :
    ∃ x spot, ((E.crash [keep] flip).fs 9).1 = x ∧ x.length = firm + t ∧ firm + t ≤ all.length ∧ DiffAt x all (firm + t) spot ∧ x.take firm = all.take firm ∧ (if 0 ≤ flip ∧ 0 < t then ∃ q, spot = some q ∧ q < firm + t else spot = none) := by
  have hk := keptN_le [keep] 0 (all.length - firm)
  rw [ht] at hk
  have hle := h.le
  have hc := crash_one hok h.only (by decide) h.bytes h.dur [keep] ht flip
  by_cases hf : 0 ≤ flip ∧ 0 < t
  · have hm := Nat.mod_lt flip.toNat (show 0 < 8 * t by omega)
    rw [if_pos hf] at hc
    refine ⟨_, _, hc, by rw [flipB_len, List.length_take]; omega, by omega, diff_flip all (firm + t) _ (by omega), ?_, ?_⟩
    · rw [flipB_take _ (Nat.le_add_right _ _), List.take_take]
      congr 1
      omega
    · rw [if_pos hf]
      exact ⟨_, rfl, by omega⟩
  · rw [if_neg hf] at hc
    refine ⟨_, none, hc, by rw [List.length_take]; omega, by omega, diff_same all _ (by omega), ?_, by rw [if_neg hf]⟩
    rw [List.take_take]
    congr 1
    omega
end Go.Proofs.Ytmofakcpldbbmaa
