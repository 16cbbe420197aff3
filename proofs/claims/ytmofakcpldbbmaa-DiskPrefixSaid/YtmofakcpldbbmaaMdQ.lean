/- Bits inverted, and the hash: plain; the hash at a literal label. -/
import Derived.Test.YtmofakcpldbbmaaMdN
import Derived.Test.YtmofakcpldbbmaaHash
namespace Go.Proofs.Ytmofakcpldbbmaa
open Go.RowKit

theorem maskB_ne (x : UInt8) (r : Nat) (h : r < 8) : x ^^^ maskB r ≠ x := by
  have h8 : r = 0 ∨ r = 1 ∨ r = 2 ∨ r = 3 ∨ r = 4 ∨ r = 5 ∨ r = 6 ∨ r = 7 := by omega
  intro e
  have e2 : x ^^^ (x ^^^ maskB r) = 0 := by rw [e]; exact UInt8.xor_self
  rw [← UInt8.xor_assoc, UInt8.xor_self, UInt8.zero_xor] at e2
  rcases h8 with h | h | h | h | h | h | h | h <;> subst h <;> revert e2 <;> decide
theorem flip_back (b : List UInt8) (n : Nat) : flipB (flipB b n) n = b := by
  unfold flipB
  apply List.ext_getElem?
  intro j
  rw [List.getElem?_modify, List.getElem?_modify]
  by_cases e : n / 8 = j
  · subst e
    cases h : b[n / 8]? with
    | none => simp
    | some x =>
      simp only [if_true]
      show some ((x ^^^ maskB (n % 8)) ^^^ maskB (n % 8)) = some x
      rw [UInt8.xor_assoc, UInt8.xor_self, UInt8.xor_zero]
  · simp [e]
theorem flip_at (b : List UInt8) (n : Nat) (x : UInt8) (h : b[n / 8]? = some x) : (flipB b n)[n / 8]? = some (x ^^^ maskB (n % 8)) := by
  rw [flipB_set b n x h, List.getElem?_set_self (List.getElem?_eq_some_iff.1 h).1]
theorem bytesB_ne {L a b : List UInt8} (hl : a.length = b.length) (h8 : a.length ≤ 8) (hne : a ≠ b) : bytesB L a ≠ bytesB L b := by
  intro e
  have h0 : 0 < a.length := by
    rcases Nat.eq_zero_or_pos a.length with h | h
    · have h1 : a = [] := List.eq_nil_of_length_eq_zero h
      have h2 : b = [] := List.eq_nil_of_length_eq_zero (by rw [← hl]; exact h)
      exact absurd (by rw [h1, h2]) hne
    · exact h
  have hw : ∀ l : List UInt8, l.length = a.length → words l = [wordAt l 0] := fun l hl2 => by
    have : nWords l = 1 := by unfold nWords; omega
    rw [words, this]
    rfl
  rw [bytesB, bytesB, hw a rfl, hw b hl.symm, hl] at e
  have := wordAt_inj hl (sumB_one (us := []) (vs := [BitVec.ofNat 64 b.length]) e)
  rw [Nat.mul_zero, List.drop_zero, List.drop_zero, List.take_of_length_le h8, List.take_of_length_le (by omega)] at this
  exact hne this
/-- The hash of up to eight bytes from where a bit was inverted. -/
theorem hash_flip {L b : List UInt8} {n o t : Nat} (ho : n / 8 = o) (hb : o < b.length) (ht : t ≤ o + 8) (hot : o < t) : bytesB L (((flipB b n).drop o).take (t - o)) ≠ bytesB L ((b.drop o).take (t - o)) := by
  subst ho
  refine bytesB_ne (by rw [List.length_take, List.length_take, List.length_drop, List.length_drop, flipB_len]) (by rw [List.length_take]; omega) (fun e => ?_)
  obtain ⟨x, hx⟩ : ∃ x, b[n / 8]? = some x := ⟨_, List.getElem?_eq_getElem hb⟩
  have h1 := congrArg (fun l => l[0]?) e
  simp only [List.getElem?_take, List.getElem?_drop, Nat.add_zero] at h1
  rw [if_pos (by omega), if_pos (by omega), flip_at b n x hx, hx] at h1
  exact maskB_ne x (n % 8) (Nat.mod_lt _ (by omega)) (Option.some.inj h1)
theorem put_self {D : Dk} (h : DOk D) {k : Int} {b : List UInt8} {d : Nat} : (D.put k b d).put k (D.fs k).1 (D.fs k).2 = D := by
  unfold Dk.put
  have : (fun j => if j = k then ((D.fs k).1, if (D.fs k).1 = [] then 0 else (D.fs k).2) else if j = k then (b, if b = [] then 0 else d) else D.fs j) = D.fs := funext fun j => by
    by_cases e : j = k
    · subst e
      rw [if_pos rfl]
      by_cases e2 : (D.fs j).1 = []
      · have := h.dur j
        rw [e2, List.length_nil] at this
        rw [if_pos e2, ← Prod.eta (D.fs j)]
        rw [e2]
        show ([], 0) = ([], (D.fs j).2)
        rw [Nat.le_zero.1 this]
      · rw [if_neg e2]
    · rw [if_neg e, if_neg e]
  simp only [this]
theorem rot_ok {D : Dk} (h : DOk D) (k bit : Int) : DOk (D.rot k bit).2 := by
  unfold Dk.rot
  split
  · exact h
  · rename_i hn
    exact flip_ok h (by omega) _
theorem rot_back {D : Dk} (h : DOk D) (k bit : Int) : (D.rot k bit).2.rot k bit = ((D.rot k bit).1, D) := by
  by_cases hc : ¬ (0 ≤ k ∧ k < 64) ∨ bit < 0 ∨ 8 * ((D.fs k).1.length : Int) ≤ bit
  · have e : D.rot k bit = (1, D) := by unfold Dk.rot; rw [if_pos hc]
    rw [e]
    exact e
  · have e : D.rot k bit = (0, D.put k (flipB (D.fs k).1 bit.toNat) (D.fs k).2) := by unfold Dk.rot; rw [if_neg hc]
    rw [e]
    have hfs : (D.put k (flipB (D.fs k).1 bit.toNat) (D.fs k).2).fs k = (flipB (D.fs k).1 bit.toNat, (D.fs k).2) := by
      have h1 := put_fs0 D k (flipB (D.fs k).1 bit.toNat) (D.fs k).2
      have h2 := flip_dur h (f := k) bit.toNat
      rw [h1] at h2
      rw [h1]
      exact Prod.ext rfl h2
    show (D.put k (flipB (D.fs k).1 bit.toNat) (D.fs k).2).rot k bit = _
    rw [Dk.rot, hfs, if_neg (by rw [flipB_len]; exact hc)]
    rw [flip_back, put_self h]
theorem rot_off (D : Dk) (k bit : Int) : (D.rot k bit).2.off = D.off := by
  unfold Dk.rot
  split <;> rfl
theorem hash_rot (v : Value) (bs : List UInt8) (n : Nat) (w : World) (hv : Rv w v n (bs.map vB)) (hl : bs.length = n) (h8 : n ≤ 8) (x : BitVec 64) (hx : bytesB [114, 111, 116] bs = x) :
    Calls Try.prog 32 #[.string ⟨#[114, 111, 116]⟩, v] w (RetU w x) := by
  have h := hbytes_any ⟨#[114, 111, 116]⟩ v bs w (by rw [hl]; exact hv) (show (3 : Nat) ≤ 1099511627776 by omega) (by omega)
  rw [show (⟨#[114, 111, 116]⟩ : ByteArray).data.toList = [114, 111, 116] from rfl, hx] at h
  exact h
end Go.Proofs.Ytmofakcpldbbmaa
