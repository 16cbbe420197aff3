/- Lists of byte slices: SameLists. -/
import Derived.Test.YtpehnggglolnoaaJrnA
import Derived.Deep.QuietTactic
import Derived.BigQuiet
import Derived.Deep.RegionHeld3
namespace Go.Proofs.Ytpehnggglolnoaa
open Go.RowKit

/-- A list of byte slices: its cells, and what each reads as. -/
def LsB (w : World) (v : Value) (L : List (List UInt8)) : Prop :=
  ∃ us : List Value, Rv w v L.length us ∧ us.length = L.length ∧ ∀ i (h : i < L.length) u, us[i]? = some u → Rv w u L[i].length (L[i].map vB)
theorem LsB.below {w w' : World} {v : Value} {L : List (List UInt8)} (h : LsB w v L) (hb : Below w.heap.size w w') : LsB w' v L := by
  obtain ⟨us, h1, h2, h3⟩ := h
  exact ⟨us, h1.below hb, h2, fun i hi u hu => (h3 i hi u hu).below hb⟩
theorem LsB.drewN {w : World} {v : Value} {L : List (List UInt8)} (h : LsB w v L) (n : Nat) : LsB (w.drewN n) v L := h
/-- One of the list. -/
theorem LsB.at {w : World} {v : Value} {L : List (List UInt8)} (h : LsB w v L) (i : Nat) (hi : i < L.length) :
    ∃ b off cap u, v = .slice (some ⟨b, off, none⟩) L.length cap ∧ w.cell? ⟨b, off + i, none⟩ = some u ∧ Rv w u L[i].length (L[i].map vB) := by
  obtain ⟨us, ⟨ao, cap, rfl, _, _, _, hrd⟩, h2, h3⟩ := h
  have hu : us[i]? = some us[i] := List.getElem?_eq_getElem (by omega)
  obtain ⟨b, off, rfl, hc⟩ := hrd.cell hu
  exact ⟨b, off, cap, us[i], rfl, hc, h3 i hi _ hu⟩

set_option maxHeartbeats 1000000 in
/-- Equal lists. -/
theorem sameLists_refl (u v : Value) (L : List (List UInt8)) (w : World) (hu : LsB w u L) (hv : LsB w v L) :
    Calls Try.prog 31 #[u, v] w fun e w' => e = .returned (.bool true) ∧ ∃ n, w' = w.drewN n := by
  have hm : L.length ≤ maxLen := by obtain ⟨_, h, _⟩ := hu; exact h.len
  unfold maxLen at hm
  obtain ⟨au, cu, eu⟩ : ∃ a c, u = .slice a L.length c := by obtain ⟨_, ⟨a, c, h, _⟩, _⟩ := hu; exact ⟨a, c, h⟩
  obtain ⟨av, cv, ev⟩ : ∃ a c, v = .slice a L.length c := by obtain ⟨_, ⟨a, c, h, _⟩, _⟩ := hv; exact ⟨a, c, h⟩
  subst eu
  subst ev
  go_enter Try.func31, Try.ntmps31
  go_wp2_with fail
  go_loopw [5] (fun iv wr => ∃ k : Nat, k ≤ L.length ∧ iv = .int .i64 k ∧ ∃ n, wr = w.drewN n) (fun i _ => L.length - (intOf i).toNat)
  case atStart => exact ⟨0, Nat.zero_le _, rfl, 0, rfl⟩
  case round =>
    obtain ⟨k, hk, rfl, n, rfl⟩ := hrel
    by_cases hlt : k < L.length
    · obtain ⟨b1, o1, c1, u1, e1, hc1, hr1⟩ := hu.at k hlt
      obtain ⟨b2, o2, c2, u2, e2, hc2, hr2⟩ := hv.at k hlt
      cases e1
      cases e2
      generalize L[k] = x at *
      go_wp2_with fail
      go_region_held3 (fun W' => W'.cell? ⟨b1, o1 + k, none⟩ = some u1 ∧ W'.cell? ⟨b2, o2 + k, none⟩ = some u2)
        (first | (rw [hw5]; exact ⟨hc1, hc2⟩) | exact ⟨hc1, hc2⟩)
        (first | (go_at_call 25; refine (sameBytes_refl u1 u2 x _ ((hr1.drewN n).drew) ((hr2.drewN n).drew)).mono ?_; rintro e w5 ⟨rfl, n5, hw5⟩))
      go_wp2_with fail
      go_roundw
      case rel => exact ⟨k + 1, by omega, by go_num, n + 1 + n5, rfl⟩
      case measure => simp [intOf]; omega
    · obtain rfl : k = L.length := by omega
      go_wp2_with fail
      go_ret
      exact ⟨rfl, n, rfl⟩
end Go.Proofs.Ytpehnggglolnoaa
