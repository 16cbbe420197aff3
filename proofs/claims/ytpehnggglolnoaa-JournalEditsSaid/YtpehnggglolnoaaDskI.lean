/- Several texts in one: DskH DskI. -/
import Derived.Test.YtpehnggglolnoaaDskG
import Derived.Test.YtpehnggglolnoaaHashM
/- Package disk: Sync, Rot. -/
namespace Go.Proofs.Ytpehnggglolnoaa
open Go.RowKit

def Dk.sync (D : Dk) : Int × Dk := if D.off then (19, D) else if D.failsB then (19, D.fails) else (0, D.fails.harden)
set_option maxRecDepth 10000 in
set_option maxHeartbeats 1000000 in
theorem sync_any (w : World) {p mb : Nat} {F : Int → Option Value} {ks : List Int} {X : Nat → Prop} {D : Dk} (h : DiskAt w p mb F ks X D) :
    Calls Try.prog 48 #[.pointer (some ⟨p, 0, none⟩)] w fun e w' => e = .returned (.int .i64 D.sync.1) ∧ ∃ F' ks', DiskAt w' p mb F' ks' X D.sync.2 ∧ DStep X X w w' := by
  have c3 := h.c3
  have HH := Lib.hid h
  go_enter Try.func48, Try.ntmps48
  cases ho : D.off
  · rw [ho] at c3
    have hA : D.sync = if D.failsB then (19, D.fails) else (0, D.fails.harden) := by unfold Dk.sync; rw [ho, if_neg (by simp)]
    have HA := Lib.hid hA
    clear hA
    go_wp2_with fail
    refine (fails_any w h).mono ?_
    rintro e w2 ⟨rfl, H2, P2⟩
    have S2 := P2.toD h.xp
    have hA := HA.out
    obtain ⟨fv, hfv⟩ : ∃ v, D.failsB = v := ⟨_, rfl⟩
    rw [hfv] at hA ⊢
    have HA := Lib.hid hA
    clear hA hfv h
    cases fv
    · go_wp2_with fail
      refine (harden_any w2 H2).mono ?_
      rintro e w3 ⟨rfl, F3, ks3, H3, S3⟩
      go_wp2_with fail
      go_ret
      rw [HA.out]
      exact ⟨rfl, F3, ks3, H3, S2.trans S3⟩
    · go_wp2_with fail
      go_ret
      rw [HA.out]
      exact ⟨rfl, F, ks, H2, S2⟩
  · rw [ho] at c3
    have hA : D.sync = (19, D) := by unfold Dk.sync; rw [ho, if_pos rfl]
    have HA := Lib.hid hA
    clear hA
    go_wp2_with fail
    go_ret
    rw [HA.out]
    exact ⟨rfl, F, ks, HH.out, DStep.refl _ _⟩
/-- A row of one file turned where it lies. -/
theorem DiskX.rerow {w w' : World} {p mb : Nat} {F : Int → Option Value} {ks : List Int} {X : Nat → Prop} {D : Dk} (h : DiskAt w p mb F ks X D) {k : Int} (hk : 0 ≤ k ∧ k < 64) {bs bs' : List UInt8} {du : Nat} (hbs : (D.fs k).1 = bs) (hdu : (D.fs k).2 = du) (he : bs ≠ []) (hlen : bs'.length = bs.length) {a : Option Addr} {c : Nat} {d0 : Int} (hl : F k = some (.agg #[.slice a bs.length c, .int .i64 d0]))
    (hv : w'.ownsRow 0 5 1 (.slice a bs.length c) bs.length (bs'.map vB)) (hs : w.heap.size ≤ w'.heap.size) (hg : ∀ x, x < w.heap.size → (Value.slice a bs.length c).ownBlock ≠ some x → w'.heap[x]? = w.heap[x]?) : DiskAt w' p mb F ks X (D.put k bs' du) := by
  have hne : bs' ≠ [] := fun e => he (List.eq_nil_of_length_eq_zero (by rw [← hlen, e]; rfl))
  have hu : (D.put k bs' du).used = D.used := by
    have := D.used_put k bs' du hk.1 hk.2
    rw [hbs, hlen] at this
    omega
  have hself : (D.put k bs' du).fs k = (bs', du) := by simp [Dk.put, hne]
  have hother : ∀ j, j ≠ k → (D.put k bs' du).fs j = D.fs j := fun j hj => by simp [Dk.put, hj]
  obtain ⟨h1, h2⟩ := h.row k _ _ id hl
  refine ⟨?_, h.map.kept (hg mb h.map.lt (fun e => (h2 mb e).2.2 rfl)), h.pm, h.xp, h.xm, fun j hj => ?_, fun j hj => ?_, fun j v e _ hj => ?_, h.sep, fun j => ?_, h.room, by rw [hu]; exact h.used, h.left, fun x hx => Nat.lt_of_lt_of_le (h.xl x hx) hs⟩
  · rw [hg p h.lt (fun e => (h2 p e).2.1 rfl), h.blk]
    unfold dkO
    rw [hu]
    rfl
  · by_cases hjk : j = k
    · subst hjk; rw [hself] at hj; exact absurd hj hne
    · rw [hother j hjk] at hj ⊢; exact h.emp j hj
  · by_cases hjk : j = k
    · subst hjk
      rw [hself]
      obtain ⟨_, _, a', c', hF⟩ := h.ful j (by rw [hbs]; exact he)
      rw [hbs, hdu] at hF
      exact ⟨hk.1, hk.2, a', c', by rw [hF, hlen]⟩
    · rw [hother j hjk] at hj ⊢; exact h.ful j hj
  · by_cases hjk : j = k
    · subst hjk
      rw [hl] at hj
      cases hj
      rw [hself]
      exact ⟨by rw [hlen]; exact hv, h2⟩
    · rw [hother j hjk]
      obtain ⟨h3, h4⟩ := h.row j v e id hj
      exact ⟨own_same h3 (fun x hx => hg x (h3.lt x hx).2 (fun e2 => h.sep k j _ _ _ _ x id id (fun e => hjk e.symm) hl hj e2 hx)), h4⟩
  · by_cases hjk : j = k
    · subst hjk
      rw [hself]
      have := h.dur j
      rw [hbs, hdu] at this
      show du ≤ bs'.length
      omega
    · rw [hother j hjk]; exact h.dur j
def maskB (j : Nat) : UInt8 := UInt8.ofNat (128 >>> j)
def flipB (b : List UInt8) (n : Nat) : List UInt8 := b.modify (n / 8) fun x => x ^^^ maskB (n % 8)
theorem flipB_len (b : List UInt8) (n : Nat) : (flipB b n).length = b.length := by simp [flipB]
theorem flipB_set (b : List UInt8) (n : Nat) (x : UInt8) (h : b[n / 8]? = some x) : flipB b n = b.set (n / 8) (x ^^^ maskB (n % 8)) := by
  unfold flipB
  apply List.ext_getElem?
  intro i
  rw [List.getElem?_modify, List.getElem?_set]
  by_cases e : n / 8 = i
  · subst e
    have := (List.getElem?_eq_some_iff.1 h).1
    rw [if_pos rfl, h, if_pos this]
    simp
  · simp [e]
def Dk.rot (D : Dk) (k bit : Int) : Int × Dk :=
  if ¬ (0 ≤ k ∧ k < 64) ∨ bit < 0 ∨ 8 * ((D.fs k).1.length : Int) ≤ bit then (1, D) else (0, D.put k (flipB (D.fs k).1 bit.toNat) (D.fs k).2)
end Go.Proofs.Ytpehnggglolnoaa

/- Package disk: invert. -/
namespace Go.Proofs.Ytpehnggglolnoaa
open Go.RowKit

def Dk.invertL (D : Dk) : List Int → Nat → Dk
  | [], _ => D
  | k :: l, n => if n < 8 * ((D.fs k).1.length - (D.fs k).2) then D.put k (flipB (D.fs k).1 (8 * (D.fs k).2 + n)) (D.fs k).2 else D.invertL l (n - 8 * ((D.fs k).1.length - (D.fs k).2))
theorem maskI (x : UInt8) (r : Nat) (h : r < 8) : bits BinOp.xor IntKind.u8 (x.toNat : Int) (128 / 2 ^ r) = ((x ^^^ maskB r).toNat : Int) := by
  rw [← xor_u8]
  congr 1
  have h8 : r = 0 ∨ r = 1 ∨ r = 2 ∨ r = 3 ∨ r = 4 ∨ r = 5 ∨ r = 6 ∨ r = 7 := by omega
  rcases h8 with h | h | h | h | h | h | h | h <;> subst h <;> decide
set_option maxRecDepth 10000 in
set_option maxHeartbeats 1000000 in
theorem invert_any (n0 : Nat) (hn64 : (n0 : Int) ≤ 9223372036854775807) (w : World) {p mb : Nat} {F : Int → Option Value} {ks : List Int} {X : Nat → Prop} {D : Dk} (h : DiskAt w p mb F ks X D) :
    Calls Try.prog 59 #[.pointer (some ⟨p, 0, none⟩), .int .i64 (n0 : Int)] w fun e w' => e = .returned (.tuple #[]) ∧ DiskAt w' p mb F ks X (D.invertL D.files n0) ∧ DStep X X w w' := by
  obtain ⟨R, hR⟩ : ∃ R, D.invertL D.files n0 = R := ⟨_, rfl⟩
  rw [hR]
  have HR := Lib.hid hR
  clear hR
  go_enter Try.func59, Try.ntmps59
  go_wp2_with fail
  refine (files_any w h).mono ?_
  rintro e w1 ⟨v, rfl, hM⟩
  have hM1 := hM.1
  rw [List.length_map] at hM1
  obtain ⟨a, c, rfl⟩ := own_isSlice hM1
  have H1 := h.later hM.2
  have S1 := DStep.ofBelow X hM.2
  have HX := Lib.hid h.xl
  have hfl := files_len D
  have HMEM := Lib.hid (files_mem D)
  have hlb : ∀ k : Int, 0 ≤ k ∧ k < 64 → ((D.fs k).1.length : Int) ≤ 16777216 := fun k hk => by
    have h1 := D.le_used k hk.1 hk.2
    have h2 := h.used
    have h3 := h.room
    omega
  have HLB := Lib.hid hlb
  obtain ⟨fl, hfe⟩ : ∃ l, D.files = l := ⟨_, rfl⟩
  rw [hfe] at hM1 hfl HMEM HR ⊢
  obtain ⟨n, hn⟩ : ∃ n, fl.length = n := ⟨_, rfl⟩
  rw [hn] at hM1 hfl ⊢
  have HN := Lib.hid hn
  clear hM hn hfe h hlb
  go_wp2_with fail
  go_loopw [1, 11] (fun u v W => ∃ (i m : Nat), u = .int .i64 (m : Int) ∧ v = .int .i64 (i : Int) ∧ i ≤ n ∧ m ≤ n0 ∧ Hid (D.invertL (fl.drop i) m = R) ∧ DiskAt W p mb F ks X D ∧ W.ownsRow w.heap.size 3 1 (.slice a n c) n (fl.map (Value.int .i64)) ∧ DStep X X w W) (fun _ v _ => n - (match v with | .int _ k => k.toNat | _ => 0))
  case atStart => exact ⟨0, n0, rfl, rfl, Nat.zero_le _, Nat.le_refl _, HR, H1, hM1, S1⟩
  case round =>
    rename World => W
    obtain ⟨i, m, rfl, rfl, hin, hmn, HR2, H2, O2, S2⟩ := hrel
    by_cases hlt : i < n
    · obtain ⟨k, hk⟩ : ∃ k, fl[i]? = some k := ⟨_, List.getElem?_eq_getElem (by rw [HN.out]; exact hlt)⟩
      have hkm := (HMEM.out k).1 (List.mem_of_getElem? hk)
      have hdr : fl.drop i = k :: fl.drop (i + 1) := by
        rw [List.drop_eq_getElem_cons (by rw [HN.out]; exact hlt)]
        congr 1
        have := List.getElem?_eq_getElem (l := fl) (i := i) (by rw [HN.out]; exact hlt)
        rw [this] at hk
        exact Option.some.inj hk
      have hR2 := HR2.out
      rw [hdr, Dk.invertL] at hR2
      obtain ⟨g, off, ha, hc⟩ := (Rd.cell (by
        obtain ⟨a', c', e, _, hr⟩ := (Rv.of_own O2).opened
        injection e with e1
        rw [← e1] at hr
        exact hr) (i := i) (u := .int .i64 k) (by rw [List.getElem?_map, hk]; rfl))
      subst ha
      obtain ⟨a2, c2, hlook, hown, hblk⟩ := H2.old k
      have hlk := H2.look2 k hlook W rfl
      have hc2 := H2.c2
      have hdur := H2.dur k
      have hl1 := HLB.out k ⟨hkm.1, hkm.2.1⟩
      have hgX : ∀ x, X x → x < w.heap.size := HX.out
      have hgb : w.heap.size ≤ g := (O2.lt g rfl).1
      obtain ⟨bs, hbs⟩ : ∃ b, (D.fs k).1 = b := ⟨_, rfl⟩
      obtain ⟨d, hd⟩ : ∃ b, (D.fs k).2 = b := ⟨_, rfl⟩
      rw [hbs] at hlook hown hblk hlk hR2 hdur hl1
      rw [hd] at hlook hlk hR2 hdur
      have hne : bs ≠ [] := by rw [← hbs]; exact hkm.2.2
      have hFk := H2.full (by rw [hbs]; exact hne) hlook
      obtain ⟨z, hz⟩ : ∃ z, bs.length = z + 1 := ⟨bs.length - 1, by have := List.length_pos_iff.2 hne; omega⟩
      rw [hz] at hown
      obtain ⟨g2, cap2, e, _, hcap, hcell, hfrz⟩ := own_open hown
      injection e with e1 e2 e3
      subst e1 e3
      rw [← hz] at hown hcap hcell
      have HR2 := Lib.hid hR2
      have HNE := Lib.hid hne
      have HBS := Lib.hid hbs
      have HD := Lib.hid hd
      have HFK := Lib.hid hFk
      have HC := Lib.hid hcell
      have HFZ := Lib.hid hfrz
      obtain ⟨L, hL⟩ : ∃ L, bs.length = L := ⟨_, rfl⟩
      have HL := Lib.hid hL
      clear hne hbs hd hFk hlook hk hR2 hcell hfrz hdr e2 hz
      rw [hL] at hlk hown hblk hdur hl1 hcap
      clear hL
      have hsz : wrap64 ((L : Int) - (d : Int)) = (L : Int) - (d : Int) := by unfold wrap64; omega
      obtain ⟨M, hM⟩ : ∃ M, L - d = M := ⟨_, rfl⟩
      have hMi : (L : Int) - (d : Int) = (M : Int) := by omega
      go_upto_region 5 with fail
      obtain ⟨P0, hP0⟩ : ∃ P0, (if c2 = d then some (⟨g2, 0, none⟩ : Addr) else some ⟨g2, d, none⟩) = P0 := ⟨_, rfl⟩
      rw [hP0]
      have BA := (Below.refl W.heap.size W).alloc (Nat.le_refl _) (.cells #[.slice (some ⟨g2, 0, none⟩) L c2, .int .i64 (d : Int)] 105)
      have H3 := H2.later BA
      have O3 := own_below O2 BA
      have S3 := S2.trans (DStep.ofBelow X BA)
      have W3 := own_below hown BA
      generalize W.alloc (.cells #[.slice (some ⟨g2, 0, none⟩) L c2, .int .i64 (d : Int)] 105) = w3 at H3 O3 S3 W3 ⊢
      generalize W.heap.size = fb
      clear H2 O2 S2 hlk hc2 BA hc hown HC HFZ
      by_cases hm : m < 8 * M
      · have hcd : ¬ c2 = d := by omega
        rw [if_neg hcd] at hP0
        subst hP0
        obtain ⟨q, hq⟩ : ∃ q, m / 8 = q := ⟨_, rfl⟩
        obtain ⟨r, hr⟩ : ∃ r, m % 8 = r := ⟨_, rfl⟩
        have hqd : (8 * d + m) / 8 = d + q := by omega
        have hrd : (8 * d + m) % 8 = r := by omega
        obtain ⟨x, hx⟩ : ∃ x, bs[d + q]? = some x := ⟨_, List.getElem?_eq_getElem (by rw [HL.out]; omega)⟩
        have hcx := W3.cellAt (j := d + q) (by omega)
        rw [List.getElem?_map, hx] at hcx
        simp only [Option.map_some, vB] at hcx
        have hfz := W3.frozenAt (d + q)
        have hst := (W3.stored (d + q) (vB (x ^^^ maskB r))).1
        have hfs := flipB_set bs (8 * d + m) x (by rw [hqd]; exact hx)
        rw [hqd, hrd] at hfs
        rw [← List.map_set, ← hfs] at hst
        have hmM : (m : Int) < 8 * (M : Int) := by omega
        have hr8 : r < 8 := by omega
        have hqM : q < M := by omega
        have hqM' : (q : Int) < (M : Int) := by omega
        have hw1 : IntKind.i64.wrap ((m : Int) / 8) = (q : Int) := by rw [IntKind.wrap_i64]; omega
        have hw3 : ((m : Int)).tmod 8 = (r : Int) := by rw [Int.tmod_eq_emod_of_nonneg (by omega)]; omega
        have hcxd : w3.drew.cell? ⟨g2, d + q, none⟩ = some (.int .u8 (x.toNat : Int)) := hcx
        have hR2 := HR2.out
        rw [HL.out, hM, if_pos hm] at hR2
        have HR2 := Lib.hid hR2
        have HX8 := Lib.hid (maskI x r hr8)
        have HST := Lib.hid hst
        have HNE := HNE
        clear hq hr hqd hrd hx hst hfs hfz hM hcx hR2
        go_upto_region 6 with fail
        go_still_tail 10, (by kernel_rfl)
        change wpList _ _ _ _ _ w3.drew
        rw [HX8.out]
        have hst := HST.out
        obtain ⟨y, hy⟩ : ∃ y, x ^^^ maskB r = y := ⟨_, rfl⟩
        rw [hy] at hst ⊢
        have hgX := (hblk g2 rfl)
        have hb2 : ∀ j, j ≠ g2 → (w3.setCell ⟨g2, d + q, none⟩ (.int .u8 (y.toNat : Int))).drew.heap[j]? = w3.heap[j]? := fun j hj => (Below.heap_setCell _ _ _ _ hj).trans rfl
        have hs2 : (w3.setCell ⟨g2, d + q, none⟩ (.int .u8 (y.toNat : Int))).drew.heap.size = w3.heap.size := World.size_setCell _ _ _
        have D2 := H3.rerow (w' := (w3.setCell ⟨g2, d + q, none⟩ (.int .u8 (y.toNat : Int))).drew) ⟨hkm.1, hkm.2.1⟩ HBS.out HD.out HNE.out (flipB_len bs (8 * d + m)) HFK.out (by rw [HL.out]; exact hst) (by rw [hs2]; exact Nat.le_refl _) (fun j _ hj => hb2 j (fun e => hj (by rw [e]; rfl)))
        have S2 : DStep X X w (w3.setCell ⟨g2, d + q, none⟩ (.int .u8 (y.toNat : Int))).drew := S3.trans ⟨rfl, rfl, rfl, by rw [hs2]; exact Nat.le_refl _, fun j _ hj => hb2 j (fun e => hj (by rw [e]; exact hgX.1)), fun j hj => .inl hj⟩
        rw [HR2.out] at D2
        have hfzd : w3.drew.frozen? ⟨g2, d + q, none⟩ = false := W3.frozenAt (d + q)
        clear HX8 hst hgX hb2 hs2 hblk hy
        go_wp2_with fail
        refine bodyPost_ret (results_none rfl _ _ _) rfl ?_
        exact ⟨rfl, D2, S2⟩
      · have hR2 := HR2.out
        rw [HL.out, hM, if_neg hm] at hR2
        have HR2 := Lib.hid hR2
        obtain ⟨m2, hm2⟩ : ∃ m2, m = m2 + 8 * M := ⟨m - 8 * M, by omega⟩
        have hmi : ¬ (m : Int) < 8 * (M : Int) := by omega
        have hmz : (m : Int) - 8 * (M : Int) = (m2 : Int) := by omega
        have hmz2 : m - 8 * M = m2 := by omega
        rw [hmz2] at HR2
        have hmn2 : m2 ≤ n0 := by omega
        clear hR2 hm2 hmz2 hm hP0 W3 hblk
        go_wp2_with fail
        refine ⟨⟨i + 1, m2, by simp, by simp, hlt, hmn2, HR2, H3, O3, S3⟩, ?_⟩
        show n - ((i : Int) + 1).toNat < n - ((i : Int)).toNat
        omega
    · obtain rfl : i = n := by omega
      have ht : fl.drop i = [] := List.drop_eq_nil_of_le (by rw [HN.out]; exact Nat.le_refl _)
      rw [ht, Dk.invertL] at HR2
      go_wp2_with fail
      go_end0
      rw [← HR2.out]
      exact ⟨rfl, H2, S2⟩
end Go.Proofs.Ytpehnggglolnoaa
