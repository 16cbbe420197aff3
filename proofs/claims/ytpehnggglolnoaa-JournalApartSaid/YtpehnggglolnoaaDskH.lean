/- Package disk: Sync, Rot. -/
import Derived.Test.YtpehnggglolnoaaDskG
import Derived.Test.YtpehnggglolnoaaHashM
namespace Go.Proofs.Ytpehnggglolnoaa
open Go.RowKit

def Dk.sync (D : Dk) : Int × Dk := if D.off then (19, D) else if D.failsB then (19, D.fails) else (0, D.fails.harden)
set_option maxRecDepth 10000 in
set_option maxHeartbeats 1000000 in
theorem sync_any (w : World) {p mb : Nat} {F : Int → Option Value} {ks : List Int} {X : Nat → Prop} {D : Dk} (h : DiskAt w p mb F ks X D) :
    Calls Try.prog 48 #[.pointer (some ⟨p, 0, none⟩)] w fun e w' => e = .returned (.int .i64 D.sync.1) ∧ ∃ F' ks', DiskAt w' p mb F' ks' X D.sync.2 ∧ DStep X X w w' := by
  have c3 := h.c3
  have HH := Lib.hid h
  go_enter Try.func48, Try.ntmps48
  cases ho : D.off
  · rw [ho] at c3
    have hA : D.sync = if D.failsB then (19, D.fails) else (0, D.fails.harden) := by unfold Dk.sync; rw [ho, if_neg (by simp)]
    have HA := Lib.hid hA
    clear hA
    go_wp2_with fail
    refine (fails_any w h).mono ?_
    rintro e w2 ⟨rfl, H2, P2⟩
    have S2 := P2.toD h.xp
    have hA := HA.out
    obtain ⟨fv, hfv⟩ : ∃ v, D.failsB = v := ⟨_, rfl⟩
    rw [hfv] at hA ⊢
    have HA := Lib.hid hA
    clear hA hfv h
    cases fv
    · go_wp2_with fail
      refine (harden_any w2 H2).mono ?_
      rintro e w3 ⟨rfl, F3, ks3, H3, S3⟩
      go_wp2_with fail
      go_ret
      rw [HA.out]
      exact ⟨rfl, F3, ks3, H3, S2.trans S3⟩
    · go_wp2_with fail
      go_ret
      rw [HA.out]
      exact ⟨rfl, F, ks, H2, S2⟩
  · rw [ho] at c3
    have hA : D.sync = (19, D) := by unfold Dk.sync; rw [ho, if_pos rfl]
    have HA := Lib.hid hA
    clear hA
    go_wp2_with fail
    go_ret
    rw [HA.out]
    exact ⟨rfl, F, ks, HH.out, DStep.refl _ _⟩
/-- A row of one file turned where it lies. -/
theorem DiskX.rerow {w w' : World} {p mb : Nat} {F : Int → Option Value} {ks : List Int} {X : Nat → Prop} {D : Dk} (h : DiskAt w p mb F ks X D) {k : Int} (hk : 0 ≤ k ∧ k < 64) {bs bs' : List UInt8} {du : Nat} (hbs : (D.fs k).1 = bs) (hdu : (D.fs k).2 = du) (he : bs ≠ []) (hlen : bs'.length = bs.length) {a : Option Addr} {c : Nat} {d0 : Int} (hl : F k = some (.agg #[.slice a bs.length c, .int .i64 d0]))
    (hv : w'.ownsRow 0 5 1 (.slice a bs.length c) bs.length (bs'.map vB)) (hs : w.heap.size ≤ w'.heap.size) (hg : ∀ x, x < w.heap.size → (Value.slice a bs.length c).ownBlock ≠ some x → w'.heap[x]? = w.heap[x]?) : DiskAt w' p mb F ks X (D.put k bs' du) := by
  have hne : bs' ≠ [] := fun e => he (List.eq_nil_of_length_eq_zero (by rw [← hlen, e]; rfl))
  have hu : (D.put k bs' du).used = D.used := by
    have := D.used_put k bs' du hk.1 hk.2
    rw [hbs, hlen] at this
    omega
  have hself : (D.put k bs' du).fs k = (bs', du) := by simp [Dk.put, hne]
  have hother : ∀ j, j ≠ k → (D.put k bs' du).fs j = D.fs j := fun j hj => by simp [Dk.put, hj]
  obtain ⟨h1, h2⟩ := h.row k _ _ id hl
  refine ⟨?_, h.map.kept (hg mb h.map.lt (fun e => (h2 mb e).2.2 rfl)), h.pm, h.xp, h.xm, fun j hj => ?_, fun j hj => ?_, fun j v e _ hj => ?_, h.sep, fun j => ?_, h.room, by rw [hu]; exact h.used, h.left, fun x hx => Nat.lt_of_lt_of_le (h.xl x hx) hs⟩
  · rw [hg p h.lt (fun e => (h2 p e).2.1 rfl), h.blk]
    unfold dkO
    rw [hu]
    rfl
  · by_cases hjk : j = k
    · subst hjk; rw [hself] at hj; exact absurd hj hne
    · rw [hother j hjk] at hj ⊢; exact h.emp j hj
  · by_cases hjk : j = k
    · subst hjk
      rw [hself]
      obtain ⟨_, _, a', c', hF⟩ := h.ful j (by rw [hbs]; exact he)
      rw [hbs, hdu] at hF
      exact ⟨hk.1, hk.2, a', c', by rw [hF, hlen]⟩
    · rw [hother j hjk] at hj ⊢; exact h.ful j hj
  · by_cases hjk : j = k
    · subst hjk
      rw [hl] at hj
      cases hj
      rw [hself]
      exact ⟨by rw [hlen]; exact hv, h2⟩
    · rw [hother j hjk]
      obtain ⟨h3, h4⟩ := h.row j v e id hj
      exact ⟨own_same h3 (fun x hx => hg x (h3.lt x hx).2 (fun e2 => h.sep k j _ _ _ _ x id id (fun e => hjk e.symm) hl hj e2 hx)), h4⟩
  · by_cases hjk : j = k
    · subst hjk
      rw [hself]
      have := h.dur j
      rw [hbs, hdu] at this
      show du ≤ bs'.length
      omega
    · rw [hother j hjk]; exact h.dur j
def maskB (j : Nat) : UInt8 := UInt8.ofNat (128 >>> j)
def flipB (b : List UInt8) (n : Nat) : List UInt8 := b.modify (n / 8) fun x => x ^^^ maskB (n % 8)
theorem flipB_len (b : List UInt8) (n : Nat) : (flipB b n).length = b.length := by simp [flipB]
theorem flipB_set (b : List UInt8) (n : Nat) (x : UInt8) (h : b[n / 8]? = some x) : flipB b n = b.set (n / 8) (x ^^^ maskB (n % 8)) := by
  unfold flipB
  apply List.ext_getElem?
  intro i
  rw [List.getElem?_modify, List.getElem?_set]
  by_cases e : n / 8 = i
  · subst e
    have := (List.getElem?_eq_some_iff.1 h).1
    rw [if_pos rfl, h, if_pos this]
    simp
  · simp [e]
def Dk.rot (D : Dk) (k bit : Int) : Int × Dk :=
  if ¬ (0 ≤ k ∧ k < 64) ∨ bit < 0 ∨ 8 * ((D.fs k).1.length : Int) ≤ bit then (1, D) else (0, D.put k (flipB (D.fs k).1 bit.toNat) (D.fs k).2)
end Go.Proofs.Ytpehnggglolnoaa
