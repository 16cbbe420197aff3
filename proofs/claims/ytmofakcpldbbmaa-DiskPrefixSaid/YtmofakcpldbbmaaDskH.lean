/- Package disk: Sync, Rot. -/
import Derived.Test.YtmofakcpldbbmaaDskG
import Derived.Test.YtmofakcpldbbmaaHashM
namespace Go.Proofs.Ytmofakcpldbbmaa
open Go.RowKit

def Dk.sync (D : Dk) : Int × Dk := if D.off then (19, D) else if D.failsB then (19, D.fails) else (0, D.fails.harden)
set_option maxRecDepth 10000 in
set_option maxHeartbeats 1000000 in
theorem sync_any (w : World) {p mb : Nat} {F : Int → Option Value} {ks : List Int} {X : Nat → Prop} {D : Dk} (h : DiskAt w p mb F ks X D) :
    Calls Try.prog 15 #[.pointer (some ⟨p, 0, none⟩)] w fun e w' => e = .returned (.int .i64 D.sync.1) ∧ ∃ F' ks', DiskAt w' p mb F' ks' X D.sync.2 ∧ DStep X X w w' := by
  have c3 := h.c3
  have HH := Lib.hid h
  go_enter Try.func15, Try.ntmps15
  cases ho : D.off
  · rw [ho] at c3
    have hA : D.sync = if D.failsB then (19, D.fails) else (0, D.fails.harden) := by unfold Dk.sync; rw [ho, if_neg (by simp)]
    have HA := Lib.hid hA
    clear hA
    go_wp2_with fail
    refine (fails_any w h).mono ?_
    rintro e w2 ⟨rfl, H2, P2⟩
    have S2 := P2.toD h.xp
    have hA := HA.out
    obtain ⟨fv, hfv⟩ : ∃ v, D.failsB = v := ⟨_, rfl⟩
    rw [hfv] at hA ⊢
    have HA := Lib.hid hA
    clear hA hfv h
    cases fv
    · go_wp2_with fail
      refine (harden_any w2 H2).mono ?_
      rintro e w3 ⟨rfl, F3, ks3, H3, S3⟩
      go_wp2_with fail
      go_ret
      rw [HA.out]
      exact ⟨rfl, F3, ks3, H3, S2.trans S3⟩
    · go_wp2_with fail
      go_ret
      rw [HA.out]
      exact ⟨rfl, F, ks, H2, S2⟩
  · rw [ho] at c3
    have hA : D.sync = (19, D) := by unfold Dk.sync; rw [ho, if_pos rfl]
    have HA := Lib.hid hA
    clear hA
    go_wp2_with fail
    go_ret
    rw [HA.out]
    exact ⟨rfl, F, ks, HH.out, DStep.refl _ _⟩
/-- A row of one file turned where it lies. -/
theorem DiskX.rerow {w w' : World} {p mb : Nat} {F : Int → Option Value} {ks : List Int} {X : Nat → Prop} {D : Dk} (h : DiskAt w p mb F ks X D) {k : Int} (hk : 0 ≤ k ∧ k < 64) {bs bs' : List UInt8} {du : Nat} (hbs : (D.fs k).1 = bs) (hdu : (D.fs k).2 = du) (he : bs ≠ []) (hlen : bs'.length = bs.length) {a : Option Addr} {c : Nat} {d0 : Int} (hl : F k = some (.agg #[.slice a bs.length c, .int .i64 d0]))
    (hv : w'.ownsRow 0 5 1 (.slice a bs.length c) bs.length (bs'.map vB)) (hs : w.heap.size ≤ w'.heap.size) (hg : ∀ x, x < w.heap.size → (Value.slice a bs.length c).ownBlock ≠ some x → w'.heap[x]? = w.heap[x]?) : DiskAt w' p mb F ks X (D.put k bs' du) := by
  have hne : bs' ≠ [] := fun e => he (List.eq_nil_of_length_eq_zero (by rw [← hlen, e]; rfl))
  have hu : (D.put k bs' du).used = D.used := by
    have := D.used_put k bs' du hk.1 hk.2
    rw [hbs, hlen] at this
    omega
  have hself : (D.put k bs' du).fs k = (bs', du) := by simp [Dk.put, hne]
  have hother : ∀ j, j ≠ k → (D.put k bs' du).fs j = D.fs j := fun j hj => by simp [Dk.put, hj]
  obtain ⟨h1, h2⟩ := h.row k _ _ id hl
  refine ⟨?_, h.map.kept (hg mb h.map.lt (fun e => (h2 mb e).2.2 rfl)), h.pm, h.xp, h.xm, fun j hj => ?_, fun j hj => ?_, fun j v e _ hj => ?_, h.sep, fun j => ?_, h.room, by rw [hu]; exact h.used, h.left, fun x hx => Nat.lt_of_lt_of_le (h.xl x hx) hs⟩
  · rw [hg p h.lt (fun e => (h2 p e).2.1 rfl), h.blk]
    unfold dkO
    rw [hu]
    rfl
  · by_cases hjk : j = k
    · subst hjk; rw [hself] at hj; exact absurd hj hne
    · rw [hother j hjk] at hj ⊢; exact h.emp j hj
  · by_cases hjk : j = k
    · subst hjk
      rw [hself]
      obtain ⟨_, _, a', c', hF⟩ := h.ful j (by rw [hbs]; exact he)
      rw [hbs, hdu] at hF
      exact ⟨hk.1, hk.2, a', c', by rw [hF, hlen]⟩
    · rw [hother j hjk] at hj ⊢; exact h.ful j hj
  · by_cases hjk : j = k
    · subst hjk
      rw [hl] at hj
      cases hj
      rw [hself]
      exact ⟨by rw [hlen]; exact hv, h2⟩
    · rw [hother j hjk]
      obtain ⟨h3, h4⟩ := h.row j v e id hj
      exact ⟨own_same h3 (fun x hx => hg x (h3.lt x hx).2 (fun e2 => h.sep k j _ _ _ _ x id id (fun e => hjk e.symm) hl hj e2 hx)), h4⟩
  · by_cases hjk : j = k
    · subst hjk
      rw [hself]
      have := h.dur j
      rw [hbs, hdu] at this
      show du ≤ bs'.length
      omega
    · rw [hother j hjk]; exact h.dur j
def maskB (j : Nat) : UInt8 := UInt8.ofNat (128 >>> j)
def flipB (b : List UInt8) (n : Nat) : List UInt8 := b.modify (n / 8) fun x => x ^^^ maskB (n % 8)
theorem flipB_len (b : List UInt8) (n : Nat) : (flipB b n).length = b.length := by simp [flipB]
theorem flipB_set (b : List UInt8) (n : Nat) (x : UInt8) (h : b[n / 8]? = some x) : flipB b n = b.set (n / 8) (x ^^^ maskB (n % 8)) := by
  unfold flipB
  apply List.ext_getElem?
  intro i
  rw [List.getElem?_modify, List.getElem?_set]
  by_cases e : n / 8 = i
  · subst e
    have := (List.getElem?_eq_some_iff.1 h).1
    rw [if_pos rfl, h, if_pos this]
    simp
  · simp [e]
def Dk.rot (D : Dk) (k bit : Int) : Int × Dk :=
  if ¬ (0 ≤ k ∧ k < 64) ∨ bit < 0 ∨ 8 * ((D.fs k).1.length : Int) ≤ bit then (1, D) else (0, D.put k (flipB (D.fs k).1 bit.toNat) (D.fs k).2)
set_option maxRecDepth 10000 in
set_option maxHeartbeats 1000000 in
theorem rot_any (k bit : Int) (hb64 : bit ≤ 9223372036854775807) (w : World) {p mb : Nat} {F : Int → Option Value} {ks : List Int} {X : Nat → Prop} {D : Dk} (h : DiskAt w p mb F ks X D) :
    Calls Try.prog 34 #[.pointer (some ⟨p, 0, none⟩), .int .i64 k, .int .i64 bit] w fun e w' => e = .returned (.int .i64 (D.rot k bit).1) ∧ DiskAt w' p mb F ks X (D.rot k bit).2 ∧ DStep X X w w' := by
  have c2 := h.c2
  have HH := Lib.hid h
  obtain ⟨a, c, hlook, hown, hblk⟩ := h.old k
  have hlk := h.look2 k hlook w rfl
  have hfd := Try.field0 a (D.fs k).1.length c ((D.fs k).2 : Int)
  have HLOOK := Lib.hid hlook
  clear hlook
  go_enter Try.func34, Try.ntmps34
  by_cases hk : 0 ≤ k ∧ k < 64
  · by_cases h0 : bit < 0
    · have hA : D.rot k bit = (1, D) := by unfold Dk.rot; rw [if_pos (.inr (.inl h0))]
      have HA := Lib.hid hA
      clear hA
      go_wp2_with fail
      refine (exists_any k _).mono ?_
      rintro e w1 ⟨rfl, rfl⟩
      rw [decide_eq_true hk]
      go_wp2_with fail
      go_ret
      rw [HA.out]
      exact ⟨rfl, HH.out, DStep.refl _ _⟩
    · have hlb : ((D.fs k).1.length : Int) ≤ 16777216 := by
        have h1 := D.le_used k hk.1 hk.2
        have h2 := h.used
        have h3 := h.room
        omega
      by_cases h1 : 8 * ((D.fs k).1.length : Int) ≤ bit
      · have hA : D.rot k bit = (1, D) := by unfold Dk.rot; rw [if_pos (.inr (.inr h1))]
        have HA := Lib.hid hA
        clear hA
        go_wp2_with fail
        refine (exists_any k _).mono ?_
        rintro e w1 ⟨rfl, rfl⟩
        rw [decide_eq_true hk]
        go_wp2_with fail
        go_ret
        rw [HA.out]
        exact ⟨rfl, HH.out, DStep.refl _ _⟩
      · have hA : D.rot k bit = (0, D.put k (flipB (D.fs k).1 bit.toNat) (D.fs k).2) := by unfold Dk.rot; rw [if_neg (fun h => h.elim (fun h => h hk) (fun h => h.elim h0 h1))]
        have HA := Lib.hid hA
        clear hA
        obtain ⟨n, rfl⟩ : ∃ n : Nat, bit = (n : Int) := ⟨bit.toNat, by omega⟩
        rw [Int.toNat_natCast] at HA
        obtain ⟨bs, hbs⟩ : ∃ b, (D.fs k).1 = b := ⟨_, rfl⟩
        obtain ⟨d, hd⟩ : ∃ b, (D.fs k).2 = b := ⟨_, rfl⟩
        have hlook := HLOOK.out
        rw [hbs, hd] at HA hlook
        rw [hbs] at hown hblk hlb h1
        rw [hbs, hd] at hlk hfd
        have hn8 : n / 8 < bs.length := by omega
        have hne : bs ≠ [] := fun e => by rw [e] at hn8; simp at hn8
        obtain ⟨x, hx⟩ : ∃ x, bs[n / 8]? = some x := ⟨_, List.getElem?_eq_getElem hn8⟩
        have hFk := h.full (by rw [hbs]; exact hne) hlook
        obtain ⟨m, hm⟩ : ∃ m, bs.length = m + 1 := ⟨bs.length - 1, by omega⟩
        rw [hm] at hown
        obtain ⟨g, cap, e, _, hcap, hcell, hfrz⟩ := own_open hown
        injection e with e1 e2 e3
        subst e1 e3
        rw [← hm] at hown hcap
        have hst := (hown.stored (n / 8) (vB (x ^^^ maskB (n % 8)))).1
        rw [← List.map_set, ← flipB_set bs n x hx] at hst
        have hcx := hcell (n / 8) (by omega)
        rw [List.getElem?_map, hx] at hcx
        simp only [Option.map_some, vB] at hcx
        have hfz := hfrz (n / 8)
        have HST := Lib.hid hst
        have HNE := Lib.hid hne
        have HBS := Lib.hid hbs
        have HD := Lib.hid hd
        have HFK := Lib.hid hFk
        obtain ⟨q, hq⟩ : ∃ q, n / 8 = q := ⟨_, rfl⟩
        obtain ⟨r, hr⟩ : ∃ r, n % 8 = r := ⟨_, rfl⟩
        rw [hq] at hcx hn8 hfz
        have hr8 : r < 8 := by omega
        have hw1 : IntKind.i64.wrap ((n : Int) / 8) = (q : Int) := by rw [IntKind.wrap_i64]; omega
        have hw3 : ((n : Int)).tmod 8 = (r : Int) := by rw [Int.tmod_eq_emod_of_nonneg (by omega)]; omega
        have hx8 : bits BinOp.xor IntKind.u8 (x.toNat : Int) (128 / 2 ^ r) = ((x ^^^ maskB r).toNat : Int) := by
          rw [← xor_u8]
          congr 1
          have h8 : r = 0 ∨ r = 1 ∨ r = 2 ∨ r = 3 ∨ r = 4 ∨ r = 5 ∨ r = 6 ∨ r = 7 := by omega
          rcases h8 with h | h | h | h | h | h | h | h <;> subst h <;> decide
        have HX8 := Lib.hid hx8
        clear hx8
        have HQ := Lib.hid hq
        have HR := Lib.hid hr
        clear hq hr
        clear hst hne hbs hd hFk hlook hm hcell hfrz e2 hx h
        have c2d : w.drew.cell? ⟨p, 2, none⟩ = some (.map (some mb)) := c2
        have hlkd := HH.out.look2 k (by rw [HFK.out]; rfl) w.drew rfl
        have hcxd : w.drew.cell? ⟨g, q, none⟩ = some (.int .u8 (x.toNat : Int)) := hcx
        go_wp2_with fail
        refine (exists_any k _).mono ?_
        rintro e w1 ⟨rfl, rfl⟩
        rw [decide_eq_true hk]
        go_upto_region 3 with fail
        go_still_tail 16, (by kernel_rfl)
        change wpList _ _ _ _ _ w.drew
        have hst := HST.out
        rw [HQ.out, HR.out] at hst
        rw [HX8.out]
        obtain ⟨y, hy⟩ : ∃ y, x ^^^ maskB r = y := ⟨_, rfl⟩
        rw [hy] at hst ⊢
        have hgX := (hblk g rfl)
        have hgl := (hown.lt g rfl).2
        have hb2 : ∀ j, j ≠ g → (w.setCell ⟨g, q, none⟩ (.int .u8 (y.toNat : Int))).drew.heap[j]? = w.heap[j]? := fun j hj => (Below.heap_setCell _ _ _ _ hj).trans rfl
        have hs2 : (w.setCell ⟨g, q, none⟩ (.int .u8 (y.toNat : Int))).drew.heap.size = w.heap.size := by exact World.size_setCell _ _ _
        have D2 := HH.out.rerow (w' := (w.setCell ⟨g, q, none⟩ (.int .u8 (y.toNat : Int))).drew) hk HBS.out HD.out HNE.out (flipB_len bs n) HFK.out hst (by rw [hs2]; exact Nat.le_refl _) (fun j _ hj => hb2 j (fun e => hj (by rw [e]; rfl)))
        have S2 : DStep X X w (w.setCell ⟨g, q, none⟩ (.int .u8 (y.toNat : Int))).drew := ⟨rfl, rfl, rfl, by rw [hs2]; exact Nat.le_refl _, fun y _ hy => hb2 y (fun e => hy (by rw [e]; exact hgX.1)), fun y hy => .inl hy⟩
        have hfzd : w.drew.frozen? ⟨g, q, none⟩ = false := hfz
        clear HX8 hst hgX hgl hb2 hs2 hown hblk hy
        go_wp2_with fail
        go_ret
        rw [HA.out]
        exact ⟨rfl, D2, S2⟩
  · have hA : D.rot k bit = (1, D) := by unfold Dk.rot; rw [if_pos (.inl hk)]
    have HA := Lib.hid hA
    clear hA
    go_wp2_with fail
    refine (exists_any k _).mono ?_
    rintro e w1 ⟨rfl, rfl⟩
    rw [decide_eq_false hk]
    go_wp2_with fail
    go_ret
    rw [HA.out]
    exact ⟨rfl, HH.out, DStep.refl _ _⟩
end Go.Proofs.Ytmofakcpldbbmaa
