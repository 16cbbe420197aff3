/- Several texts in one: DskJ DskK DskL DkP. -/
import Derived.Test.YtpehnggglolnoaaDskI
import Derived.Deep.QuietTactic
/- Package disk: Crash. -/
namespace Go.Proofs.Ytpehnggglolnoaa
open Go.RowKit

theorem own_at {α : Type} {W : World} {base n c i : Nat} {e : TypeId} {a : Option Addr} {l : List α} {f : α → Value} {k : α} (h : W.ownsRow base e 1 (.slice a n c) n (l.map f)) (hk : l[i]? = some k) : ∃ g off, a = some ⟨g, off, none⟩ ∧ W.cell? ⟨g, off + i, none⟩ = some (f k) ∧ base ≤ g := by
  obtain ⟨a', c', e, _, hr⟩ := (Rv.of_own h).opened
  injection e with e1
  rw [← e1] at hr
  obtain ⟨g, off, ha, hc⟩ := hr.cell (i := i) (u := f k) (by rw [List.getElem?_map, hk]; rfl)
  exact ⟨g, off, ha, hc, (h.lt g (by rw [ha]; rfl)).1⟩
theorem rv_at {α : Type} {W : World} {n c i : Nat} {a : Option Addr} {l : List α} {f : α → Value} {k : α} (h : Rv W (.slice a n c) n (l.map f)) (hk : l[i]? = some k) : ∃ g off, a = some ⟨g, off, none⟩ ∧ W.cell? ⟨g, off + i, none⟩ = some (f k) := by
  obtain ⟨a', c', e, _, hr⟩ := h.opened
  injection e with e1
  rw [← e1] at hr
  exact hr.cell (i := i) (u := f k) (by rw [List.getElem?_map, hk]; rfl)
/-- How many loose bytes of the i-th file are kept. -/
def keptN (keep : List Int) (i L : Nat) : Nat := match keep[i]? with
  | none => 0
  | some x => min x.toNat L
theorem keptN_le (keep : List Int) (i L : Nat) : keptN keep i L ≤ L := by unfold keptN; split <;> omega
/-- The first i files, cut; and the loose bytes kept. -/
def Dk.cutI (D : Dk) (keep fl : List Int) : Nat → Dk × Nat
  | 0 => (D, 0)
  | i + 1 => let E := D.cutI keep fl i
             let k := fl[i]?.getD 0
             let t := keptN keep i ((E.1.fs k).1.length - (E.1.fs k).2)
             (E.1.put k ((E.1.fs k).1.take ((E.1.fs k).2 + t)) (E.1.fs k).2, E.2 + t)
theorem cutI_room (D : Dk) (keep fl : List Int) (i : Nat) : (D.cutI keep fl i).1.room = D.room := by
  induction i with
  | zero => rfl
  | succ i ih => exact ih
def Dk.crash (D : Dk) (keep : List Int) (flip : Int) : Dk :=
  let E := D.cutI keep D.files D.files.length
  let E2 := if 0 ≤ flip ∧ 0 < E.2 then E.1.invertL E.1.files (flip.toNat % (8 * E.2)) else E.1
  { E2.harden with off := false, armed := false, left := 0 }
set_option maxRecDepth 20000 in
set_option maxHeartbeats 2000000 in
theorem crash_any (keep : List Int) (kv : Value) (flip : Int) (hf64 : flip ≤ 9223372036854775807) (hk64 : ∀ x ∈ keep, x ≤ 9223372036854775807) (w : World) {p mb : Nat} {F : Int → Option Value} {ks : List Int} {X : Nat → Prop} {D : Dk} (h : DiskAt w p mb F ks X D)
    (hkv : Rv w kv keep.length (keep.map (Value.int .i64))) (hkX : ∀ x, kv.ownBlock = some x → ¬ X x) :
    Calls Try.prog 19 #[.pointer (some ⟨p, 0, none⟩), kv, .int .i64 flip] w fun e w' => e = .returned (.tuple #[]) ∧ ∃ F' ks', DiskAt w' p mb F' ks' X (D.crash keep flip) ∧ DStep X X w w' := by
  obtain ⟨R, hR⟩ : ∃ R, D.crash keep flip = R := ⟨_, rfl⟩
  rw [hR]
  unfold Dk.crash at hR
  obtain ⟨ak, ck, rfl, _, _⟩ := hkv.opened
  have HR := Lib.hid hR
  clear hR
  go_enter Try.func19, Try.ntmps19
  go_wp2_with fail
  refine (files_any w h).mono ?_
  rintro e w1 ⟨v, rfl, hM⟩
  have hM1 := hM.1
  rw [List.length_map] at hM1
  obtain ⟨a, c, rfl⟩ := own_isSlice hM1
  have H1 := h.later hM.2
  have S1 := DStep.ofBelow X hM.2
  have K1 := hkv.below hM.2
  have HX := Lib.hid h.xl
  have hfl := files_len D
  have HMEM := Lib.hid (files_mem D)
  have HK64 := Lib.hid hk64
  obtain ⟨fl, hfe⟩ : ∃ l, D.files = l := ⟨_, rfl⟩
  rw [hfe] at hM1 hfl HMEM HR ⊢
  obtain ⟨n, hn⟩ : ∃ n, fl.length = n := ⟨_, rfl⟩
  rw [hn] at hM1 hfl HR ⊢
  have HN := Lib.hid hn
  have hkl2 : keep.length ≤ maxLen := hkv.len
  obtain ⟨kn, hkn⟩ : ∃ kn, keep.length = kn := ⟨_, rfl⟩
  rw [hkn] at K1 hkl2 hkX ⊢
  have HKX := Lib.hid hkX
  have HKN := Lib.hid hkn
  clear hM hn hfe h hkX hk64 hkv hkn
  go_wp2_with fail
  go_loopw [7, 16] (fun u v W => ∃ (i s : Nat) (F' : Int → Option Value) (ks' : List Int), u = .int .i64 (s : Int) ∧ v = .int .i64 (i : Int) ∧ i ≤ n ∧ s ≤ i * 16777216 ∧ Hid ((D.cutI keep fl i).2 = s) ∧ DiskAt W p mb F' ks' X (D.cutI keep fl i).1 ∧ W.ownsRow w.heap.size 3 1 (.slice a n c) n (fl.map (Value.int .i64)) ∧ Rv W (.slice ak kn ck) kn (keep.map (Value.int .i64)) ∧ DStep X X w W) (fun _ v _ => n - (match v with | .int _ k => k.toNat | _ => 0))
  case atStart => exact ⟨0, 0, F, ks, rfl, rfl, Nat.zero_le _, by simp, rfl, H1, hM1, K1, S1⟩
  case round =>
    rename World => W
    obtain ⟨i, s, F2, ks2, rfl, rfl, hin, hs, HS, H2, O2, K2, S2⟩ := hrel
    by_cases hlt : i < n
    · obtain ⟨k, hk⟩ : ∃ k, fl[i]? = some k := ⟨_, List.getElem?_eq_getElem (by rw [HN.out]; exact hlt)⟩
      have hkm := (HMEM.out k).1 (List.mem_of_getElem? hk)
      obtain ⟨E, hE⟩ : ∃ E, (D.cutI keep fl i).1 = E := ⟨_, rfl⟩
      have hnx : D.cutI keep fl (i + 1) = (E.put k ((E.fs k).1.take ((E.fs k).2 + keptN keep i ((E.fs k).1.length - (E.fs k).2))) (E.fs k).2, s + keptN keep i ((E.fs k).1.length - (E.fs k).2)) := by
        rw [← hE, ← HS.out]
        show Prod.mk _ _ = _
        rw [hk]
        rfl
      rw [hE] at H2
      clear hE
      obtain ⟨g, off, ha, hc, hgb⟩ := own_at O2 hk
      subst ha
      obtain ⟨a2, c2, hlook, hown, hblk⟩ := H2.old k
      have hlk := H2.look2 k hlook W rfl
      have hc2 := H2.c2
      have hdur := H2.dur k
      have hl1 := E.le_used k hkm.1 hkm.2.1
      have hl2 := H2.used
      have hl3 := H2.room
      have hgX : ∀ x, X x → x < w.heap.size := HX.out
      obtain ⟨bs, hbs⟩ : ∃ b, (E.fs k).1 = b := ⟨_, rfl⟩
      obtain ⟨d, hd⟩ : ∃ b, (E.fs k).2 = b := ⟨_, rfl⟩
      rw [hbs] at hlook hown hblk hlk hnx hdur hl1
      rw [hd] at hlook hlk hnx hdur
      obtain ⟨L, hL⟩ : ∃ L, bs.length = L := ⟨_, rfl⟩
      rw [hL] at hlook hown hblk hlk hnx hdur hl1
      have hL24 : L ≤ 16777216 := by omega
      have hcap : L ≤ c2 := by
        obtain ⟨_, _, e, h, _⟩ := (Rv.of_own hown).opened
        cases e
        exact h
      obtain ⟨M, hM⟩ : ∃ M, L - d = M := ⟨_, rfl⟩
      have hMi : (L : Int) - (d : Int) = (M : Int) := by omega
      rw [hM] at hnx
      obtain ⟨t, ht⟩ : ∃ t, keptN keep i M = t := ⟨_, rfl⟩
      have htM : t ≤ M := by rw [← ht]; exact keptN_le _ _ _
      rw [ht] at hnx
      have HNX := Lib.hid hnx
      have HT := Lib.hid ht
      have HBS := Lib.hid hbs
      have HD := Lib.hid hd
      have HL := Lib.hid hL
      have HMM := Lib.hid hM
      have HLK := Lib.hid hlook
      clear hnx ht hbs hd hL hlook hk hM hl1 hl2 hl3
      go_upto_region 7 with fail
      have BA := (Below.refl W.heap.size W).alloc (Nat.le_refl _) (.cells #[.slice a2 L c2, .int .i64 (d : Int)] 105)
      have hf := World.alloc_heap_new W (.cells #[.slice a2 L c2, .int .i64 (d : Int)] 105)
      have H3 := H2.later BA
      have O3 := own_below O2 BA
      have K3 := K2.below BA
      have SW := DStep.ofBelow X BA
      have S3 := S2.trans (DStep.ofBelow X BA)
      have W3 := own_below hown BA
      have hfl3 : ∀ x, (Value.slice a2 L c2).ownBlock = some x → x < W.heap.size := fun x hx => (hown.lt x hx).2
      have hXf : ∀ x, X x → x < W.heap.size := H2.xl
      have hgf : (Value.slice (some ⟨g, off, none⟩) n c).ownBlock ≠ some W.heap.size := fun e => by have := (O2.lt _ e).2; omega
      generalize W.alloc (.cells #[.slice a2 L c2, .int .i64 (d : Int)] 105) = w3 at H3 O3 S3 W3 K3 SW hf ⊢
      have hWf : W.heap.size ≤ W.heap.size := Nat.le_refl _
      generalize hfbe : W.heap.size = fb at hf hfl3 hXf hgf ⊢
      replace hWf : W.heap.size ≤ fb := by rw [← hfbe]; exact hWf
      clear hfbe
      clear H2 O2 hlk hc2 BA hc hown
      have f0 : w3.cell? ⟨fb, 0, none⟩ = some (.slice a2 L c2) := by simp [World.cell?, hf]
      have f1 : w3.cell? ⟨fb, 1, none⟩ = some (.int .i64 (d : Int)) := by simp [World.cell?, hf]
      have f0d : w3.drew.cell? ⟨fb, 0, none⟩ = some (.slice a2 L c2) := f0
      have f1d : w3.drew.cell? ⟨fb, 1, none⟩ = some (.int .i64 (d : Int)) := f1
      go_upto_if 30 with fail
      obtain ⟨bq, hbq⟩ : ∃ b, decide (i < kn) = b := ⟨_, rfl⟩
      rw [hbq]
      go_cut [11] from 31 to 42 (fun u wx => u = .int .i64 (t : Int) ∧ Below w3.heap.size w3 wx)
      case first =>
        cases bq with
        | true =>
          have hik : i < kn := of_decide_eq_true hbq
          obtain ⟨x, hx⟩ : ∃ x, keep[i]? = some x := ⟨_, List.getElem?_eq_getElem (by rw [HKN.out]; exact hik)⟩
          obtain ⟨gk, offk, hak, hck⟩ := rv_at K3 hx
          subst hak
          have hckd : w3.drew.cell? ⟨gk, offk + i, none⟩ = some (.int .i64 x) := hck
          have hiki : (i : Int) < (kn : Int) := by omega
          have hx64 := HK64.out x (List.mem_of_getElem? hx)
          have htx : t = min x.toNat M := by rw [← HT.out]; unfold keptN; rw [hx]
          go_wp2_with fail
          go_quiet (fail)
          go_wp2_with fail
          go_meet
          refine ⟨?_, belD (Below.refl _ _) nq⟩
          rw [htx]
          congr 1
          omega
        | false =>
          have hik : ¬ i < kn := of_decide_eq_false hbq
          have hiki : ¬ (i : Int) < (kn : Int) := by omega
          have ht0 : t = 0 := by rw [← HT.out]; unfold keptN; rw [List.getElem?_eq_none (by rw [HKN.out]; omega)]
          subst ht0
          go_wp2_with fail
          go_meet
          exact ⟨by simp, Below.refl _ _⟩
      case rest =>
      rename World => w4
      obtain ⟨rfl, B4⟩ := hcut
      have hfl := (Array.getElem?_eq_some_iff.1 hf).1
      have hf4 := (B4.block fb hfl).trans hf
      have H4 := H3.later B4
      have O4 := own_below O3 B4
      have S4 := S3.trans (DStep.ofBelow X B4)
      have SW4 := SW.trans (DStep.ofBelow X B4)
      have W4 := own_below W3 B4
      clear H3 O3 S3 SW W3 K3 f0 f1 f0d f1d hf B4 hfl
      have f0 : w4.cell? ⟨fb, 0, none⟩ = some (.slice a2 L c2) := by simp [World.cell?, hf4]
      have f1 : w4.cell? ⟨fb, 1, none⟩ = some (.int .i64 (d : Int)) := by simp [World.cell?, hf4]
      have fz : ∀ j, w4.frozen? ⟨fb, j, none⟩ = false := fun j => by simp [World.frozen?, hf4]
      have hdt : (d : Int) + (t : Int) ≤ (c2 : Int) := by omega
      go_upto_region 10 with fail
      have H5 := H4.kept (w' := w4.setCell ⟨fb, 0, none⟩ (.slice a2 (d + t) c2)) (by simp) (fun x hx => Below.heap_setCell _ _ _ _ (by have := hXf x hx; show x ≠ fb; omega))
      have O5 := own_same (w' := w4.setCell ⟨fb, 0, none⟩ (.slice a2 (d + t) c2)) O4 (fun x hx => Below.heap_setCell _ _ _ _ (fun e => hgf (by rw [hx, e])))
      have W5 := own_same (w' := w4.setCell ⟨fb, 0, none⟩ (.slice a2 (d + t) c2)) W4 (fun x hx => Below.heap_setCell _ _ _ _ (by have := hfl3 x hx; show x ≠ fb; omega))
      have hf5 := setBlk hf4 0 (.slice a2 (d + t) c2)
      simp only [List.setIfInBounds_toArray, List.set_cons_zero] at hf5
      have hfbW : W.heap.size ≤ fb := hWf
      have SW5 : DStep X X W (w4.setCell ⟨fb, 0, none⟩ (.slice a2 (d + t) c2)) := ⟨SW4.os, SW4.tape, SW4.output, by rw [World.size_setCell]; exact SW4.size, fun j hj hX => (Below.heap_setCell _ _ _ _ (by show j ≠ fb; omega)).trans (SW4.block j hj hX), fun j hj => .inl hj⟩
      have S5 := S2.trans SW5
      have htl : (bs.take (d + t)).length = d + t := by rw [List.length_take, HL.out]; omega
      have hcut := own_cut W5 (d + t) (by omega)
      rw [← List.map_take] at hcut
      generalize w4.setCell ⟨fb, 0, none⟩ (.slice a2 (d + t) c2) = w5 at H5 O5 W5 hf5 SW5 S5 hcut ⊢
      clear H4 O4 S4 SW4 W4 hf4 f0 f1 fz
      have k0 : w5.cell? ⟨fb, 0, none⟩ = some (.slice a2 (d + t) c2) := by simp [World.cell?, hf5]
      have k1 : w5.cell? ⟨fb, 1, none⟩ = some (.int .i64 (d : Int)) := by simp [World.cell?, hf5]
      have hroom : ((E.put k (bs.take (d + t)) d).used : Int) ≤ E.room := by
        have h1 := E.used_put k (bs.take (d + t)) d hkm.1 hkm.2.1
        rw [HBS.out, HL.out, htl] at h1
        have h2 := H5.used
        omega
      have hput := put_any k a2 c2 d (bs.take (d + t)) w5 (H5.weak (fun j => j = k)) hkm.1 hkm.2.1 (by rw [htl]; exact hcut) (fun x hx => (hblk x (by
        rw [htl] at hx
        cases a2 with
        | none => cases hx
        | some q => exact hx)).2) (by rw [htl]; omega) hroom
      rw [htl] at hput
      have hputX : ∀ x, (X x ∨ (Value.slice a2 (d + t) c2).ownBlock = some x) ↔ X x := fun x => ⟨fun h => h.elim id (fun hx => (hblk x (by
        cases a2 with
        | none => cases hx
        | some q => exact hx)).1), .inl⟩
      have HPUT := Lib.hid hput
      have HPX := Lib.hid hputX
      have hst : (s : Int) + (t : Int) ≤ 9223372036854775807 := by omega
      clear hput hputX hroom htl hcut W5 hblk
      go_wp2_with fail
      refine HPUT.out.mono ?_
      rintro e w7 ⟨rfl, ⟨F7, ks7, D7⟩, Q7⟩
      have D7' := D7.sameX HPX.out
      have hpX := H5.xp
      have hmX := H5.xm
      have SQ : DStep X X w5 w7 := ⟨Q7.os, Q7.tape, Q7.output, Q7.size, fun j hj hX => Q7.block j hj (fun e => hX (by rw [e]; exact hpX)) (fun e => hX (by rw [e]; exact hmX)), fun j hj => .inl hj⟩
      have O7 := own_same (w' := w7) O5 (fun x hx => SQ.block x (O5.lt x hx).2 (fun hX => by
        have h1 := (O5.lt x hx).1
        have h2 := hgX x hX
        omega))
      have K7 := rvSame (w' := w7) K2 (fun j hj hv => (SW5.trans SQ).block j hj (HKX.out j hv))
      have S7 := S5.trans SQ
      have hnx := HNX.out
      have HS7 : Hid ((D.cutI keep fl (i + 1)).2 = s + t) := Lib.hid (by rw [hnx])
      have hE7 : (D.cutI keep fl (i + 1)).1 = E.put k (bs.take (d + t)) d := by rw [hnx]
      rw [← hE7] at D7'
      clear HPUT HPX D7 H5 hf5 k0 k1 O5 SW5 S5 hnx hE7
      go_wp2_with fail
      refine ⟨⟨i + 1, s + t, _, _, by simp, by simp, hlt, by omega, HS7, D7', O7, K7, S7⟩, ?_⟩
      show n - ((i : Int) + 1).toNat < n - ((i : Int)).toNat
      omega
    · obtain rfl : i = n := by omega
      have hR := HR.out
      obtain ⟨E, hE⟩ : ∃ E, (D.cutI keep fl i).1 = E := ⟨_, rfl⟩
      rw [hE, HS.out] at hR
      rw [hE] at H2
      have hs8 : 8 * s ≤ 8 * (64 * 16777216) := by omega
      clear hE H1 S1 K1
      by_cases hfl : 0 ≤ flip ∧ 0 < s
      · rw [if_pos hfl] at hR
        obtain ⟨fn, rfl⟩ : ∃ fn : Nat, flip = (fn : Int) := ⟨flip.toNat, by omega⟩
        rw [Int.toNat_natCast] at hR
        obtain ⟨b, hb⟩ : ∃ b, fn % (8 * s) = b := ⟨_, rfl⟩
        rw [hb] at hR
        have hbs : b < 8 * s := by rw [← hb]; exact Nat.mod_lt _ (by omega)
        have hmod : ((fn : Int)).tmod (8 * (s : Int)) = (b : Int) := by
          rw [Int.tmod_eq_emod_of_nonneg (by omega), ← hb, Int.natCast_emod]
          rfl
        have hb0 : ¬ (8 * (s : Int)) = 0 := by omega
        have hs0 : (0 : Int) < (s : Int) := by omega
        have hf0 : (0 : Int) ≤ (fn : Int) := by omega
        have hb64 : (b : Int) ≤ 9223372036854775807 := by omega
        have HRR := Lib.hid hR
        clear hR hb
        go_wp2_with fail
        refine (invert_any b hb64 W H2).mono ?_
        rintro e W4 ⟨rfl, H4, S4⟩
        replace S4 := S2.trans S4
        clear H2 S2 K2 O2
        go_wp2_with fail
        refine (harden_any W4 H4).mono ?_
        rintro e w5 ⟨rfl, F5, ks5, H5, S5⟩
        have S5' := S4.trans S5
        have c3 := H5.c3
        have c4 := H5.c4
        have c5 := H5.c5
        have fz := fun j => H5.fz j
        have hb := H5.blk
        unfold dkO at hb
        have HB := Lib.hid hb
        have HH5 := Lib.hid H5
        clear hb H5 H4
        go_wp2_with fail
        go_end0
        have hD : DiskAt (((w5.setCell ⟨p, 3, none⟩ (.bool false)).setCell ⟨p, 4, none⟩ (.bool false)).setCell ⟨p, 5, none⟩ (.int .i64 0)) p mb F5 ks5 X R := by
          rw [← HRR.out]
          refine HH5.out.turn ?_ (by simp) (fun k _ hp => (Below.heap_setCell _ _ _ _ hp).trans ((Below.heap_setCell _ _ _ _ hp).trans (Below.heap_setCell _ _ _ _ hp))) rfl rfl (by show (0 : Nat) ≤ _; omega)
          have := setBlk (setBlk (setBlk HB.out 3 (.bool false)) 4 (.bool false)) 5 (.int .i64 0)
          simp only [List.setIfInBounds_toArray, List.set_cons_succ, List.set_cons_zero] at this
          unfold dkO
          exact this
        have hX := HH5.out.xp
        have hN : ∀ j, ¬ X j → j ≠ p := fun j hj e => hj (by rw [e]; exact hX)
        exact ⟨rfl, F5, ks5, hD, S5'.trans ⟨rfl, rfl, rfl, by simp, fun j _ hj => (Below.heap_setCell _ _ _ _ (hN j hj)).trans ((Below.heap_setCell _ _ _ _ (hN j hj)).trans (Below.heap_setCell _ _ _ _ (hN j hj))), fun j hj => .inl hj⟩⟩
      · rw [if_neg hfl] at hR
        have HRR := Lib.hid hR
        have H4 := H2
        have S4 := S2
        clear hR H2 S2 K2 O2
        rename World => W4
        by_cases hf0 : 0 ≤ flip
        · obtain rfl : s = 0 := by omega
          go_wp2_with fail
          refine (harden_any W4 H4).mono ?_
          rintro e w5 ⟨rfl, F5, ks5, H5, S5⟩
          have S5' := S4.trans S5
          have c3 := H5.c3
          have c4 := H5.c4
          have c5 := H5.c5
          have fz := fun j => H5.fz j
          have hb := H5.blk
          unfold dkO at hb
          have HB := Lib.hid hb
          have HH5 := Lib.hid H5
          clear hb H5 H4
          go_wp2_with fail
          go_end0
          have hD : DiskAt (((w5.setCell ⟨p, 3, none⟩ (.bool false)).setCell ⟨p, 4, none⟩ (.bool false)).setCell ⟨p, 5, none⟩ (.int .i64 0)) p mb F5 ks5 X R := by
            rw [← HRR.out]
            refine HH5.out.turn ?_ (by simp) (fun k _ hp => (Below.heap_setCell _ _ _ _ hp).trans ((Below.heap_setCell _ _ _ _ hp).trans (Below.heap_setCell _ _ _ _ hp))) rfl rfl (by show (0 : Nat) ≤ _; omega)
            have := setBlk (setBlk (setBlk HB.out 3 (.bool false)) 4 (.bool false)) 5 (.int .i64 0)
            simp only [List.setIfInBounds_toArray, List.set_cons_succ, List.set_cons_zero] at this
            unfold dkO
            exact this
          have hX := HH5.out.xp
          have hN : ∀ j, ¬ X j → j ≠ p := fun j hj e => hj (by rw [e]; exact hX)
          exact ⟨rfl, F5, ks5, hD, S5'.trans ⟨rfl, rfl, rfl, by simp, fun j _ hj => (Below.heap_setCell _ _ _ _ (hN j hj)).trans ((Below.heap_setCell _ _ _ _ (hN j hj)).trans (Below.heap_setCell _ _ _ _ (hN j hj))), fun j hj => .inl hj⟩⟩
        · go_wp2_with fail
          refine (harden_any W4 H4).mono ?_
          rintro e w5 ⟨rfl, F5, ks5, H5, S5⟩
          have S5' := S4.trans S5
          have c3 := H5.c3
          have c4 := H5.c4
          have c5 := H5.c5
          have fz := fun j => H5.fz j
          have hb := H5.blk
          unfold dkO at hb
          have HB := Lib.hid hb
          have HH5 := Lib.hid H5
          clear hb H5 H4
          go_wp2_with fail
          go_end0
          have hD : DiskAt (((w5.setCell ⟨p, 3, none⟩ (.bool false)).setCell ⟨p, 4, none⟩ (.bool false)).setCell ⟨p, 5, none⟩ (.int .i64 0)) p mb F5 ks5 X R := by
            rw [← HRR.out]
            refine HH5.out.turn ?_ (by simp) (fun k _ hp => (Below.heap_setCell _ _ _ _ hp).trans ((Below.heap_setCell _ _ _ _ hp).trans (Below.heap_setCell _ _ _ _ hp))) rfl rfl (by show (0 : Nat) ≤ _; omega)
            have := setBlk (setBlk (setBlk HB.out 3 (.bool false)) 4 (.bool false)) 5 (.int .i64 0)
            simp only [List.setIfInBounds_toArray, List.set_cons_succ, List.set_cons_zero] at this
            unfold dkO
            exact this
          have hX := HH5.out.xp
          have hN : ∀ j, ¬ X j → j ≠ p := fun j hj e => hj (by rw [e]; exact hX)
          exact ⟨rfl, F5, ks5, hD, S5'.trans ⟨rfl, rfl, rfl, by simp, fun j _ hj => (Below.heap_setCell _ _ _ _ (hN j hj)).trans ((Below.heap_setCell _ _ _ _ (hN j hj)).trans (Below.heap_setCell _ _ _ _ (hN j hj))), fun j hj => .inl hj⟩⟩
end Go.Proofs.Ytpehnggglolnoaa

/- Package disk: Copy. -/
namespace Go.Proofs.Ytpehnggglolnoaa
open Go.RowKit

/-- A map of files without its disk. -/
structure RowsAt (w : World) (mb : Nat) (F : Int → Option Value) (ks : List Int) (X : Nat → Prop) (fs : Int → List UInt8 × Nat) : Prop where
  map : MapF w mb F ks
  emp : ∀ k, (fs k).1 = [] → F k = none ∧ (fs k).2 = 0
  ful : ∀ k, (fs k).1 ≠ [] → 0 ≤ k ∧ k < 64 ∧ ∃ a c, F k = some (.agg #[.slice a (fs k).1.length c, .int .i64 ((fs k).2 : Int)])
  row : ∀ k v d, F k = some (.agg #[v, d]) → w.ownsRow 0 5 1 v (fs k).1.length ((fs k).1.map vB) ∧ ∀ b, v.ownBlock = some b → X b ∧ b ≠ mb
  sep : ∀ j k u v d e b, j ≠ k → F j = some (.agg #[u, d]) → F k = some (.agg #[v, e]) → u.ownBlock = some b → v.ownBlock ≠ some b
  dur : ∀ k, (fs k).2 ≤ (fs k).1.length
  xl : ∀ b, X b → b < w.heap.size
section
variable {w w' : World} {mb : Nat} {F F' : Int → Option Value} {ks ks' : List Int} {X : Nat → Prop} {fs : Int → List UInt8 × Nat}
theorem RowsAt.kept (h : RowsAt w mb F ks X fs) (hs : w.heap.size ≤ w'.heap.size) (hm : w'.heap[mb]? = w.heap[mb]?) (hb : ∀ b, X b → w'.heap[b]? = w.heap[b]?) : RowsAt w' mb F ks X fs :=
  ⟨h.map.kept hm, h.emp, h.ful, fun k v d hF => ⟨own_same (h.row k v d hF).1 (fun b hv => hb b ((h.row k v d hF).2 b hv).1), (h.row k v d hF).2⟩, h.sep, h.dur, fun b hX => Nat.lt_of_lt_of_le (h.xl b hX) hs⟩
theorem RowsAt.later (h : RowsAt w mb F ks X fs) (B : Below w.heap.size w w') : RowsAt w' mb F ks X fs := h.kept B.size (B.block mb h.map.lt) (fun b hX => B.block b (h.xl b hX))
/-- A file comes in. -/
theorem RowsAt.put (h : RowsAt w mb F ks X fs) {k : Int} (hk : 0 ≤ k ∧ k < 64) {bs : List UInt8} (hne : bs ≠ []) {a : Option Addr} {c d : Nat} (hd : d ≤ bs.length)
    (hv : w.ownsRow 0 5 1 (.slice a bs.length c) bs.length (bs.map vB)) (hvb : ∀ x, (Value.slice a bs.length c).ownBlock = some x → ¬ X x ∧ x ≠ mb)
    (hm : MapF w' mb F' ks') (hF : ∀ x, F' x = if x = k then some (.agg #[.slice a bs.length c, .int .i64 (d : Int)]) else F x) (hg : w.grownBy w' (some mb)) :
    RowsAt w' mb F' ks' (fun x => X x ∨ (Value.slice a bs.length c).ownBlock = some x) (fun j => if j = k then (bs, d) else fs j) := by
  refine ⟨hm, fun j hj => ?_, fun j hj => ?_, fun j v e hj => ?_, fun i j u v e f x hij hi hj hu hv3 => ?_, fun j => ?_, fun x hx => ?_⟩
  · by_cases hjk : j = k
    · subst hjk
      simp only [if_true] at hj
      exact absurd hj hne
    · simp only [if_neg hjk] at hj ⊢
      rw [hF, if_neg hjk]
      exact h.emp j hj
  · by_cases hjk : j = k
    · subst hjk
      simp only [if_true]
      exact ⟨hk.1, hk.2, a, c, by rw [hF, if_pos rfl]⟩
    · simp only [if_neg hjk] at hj ⊢
      rw [hF, if_neg hjk]
      exact h.ful j hj
  · rw [hF] at hj
    by_cases hjk : j = k
    · subst hjk
      rw [if_pos rfl] at hj
      cases hj
      simp only [if_true]
      exact ⟨own_same hv (fun x hx => hg.block x (hv.lt x hx).2 (fun e => (hvb x hx).2 (Option.some.inj e))), fun x hx => ⟨.inr hx, (hvb x hx).2⟩⟩
    · rw [if_neg hjk] at hj
      simp only [if_neg hjk]
      obtain ⟨h1, h2⟩ := h.row j v e hj
      exact ⟨own_same h1 (fun x hx => hg.block x (h1.lt x hx).2 (fun e => (h2 x hx).2 (Option.some.inj e))), fun x hx => ⟨.inl (h2 x hx).1, (h2 x hx).2⟩⟩
  · rw [hF] at hi hj
    by_cases hik : i = k
    · subst hik
      rw [if_pos rfl] at hi
      rw [if_neg (fun e => hij e.symm)] at hj
      cases hi
      exact (hvb x hu).1 ((h.row j v f hj).2 x hv3).1
    · rw [if_neg hik] at hi
      by_cases hjk : j = k
      · subst hjk
        rw [if_pos rfl] at hj
        cases hj
        exact (hvb x hv3).1 ((h.row i u e hi).2 x hu).1
      · rw [if_neg hjk] at hj
        exact h.sep i j u v e f x hij hi hj hu hv3
  · by_cases hjk : j = k
    · simp only [if_pos hjk]; exact hd
    · simp only [if_neg hjk]; exact h.dur j
  · rcases hx with hx | hx
    · exact Nat.lt_of_lt_of_le (h.xl x hx) hg.size
    · exact Nat.lt_of_lt_of_le (hv.lt x hx).2 hg.size
end
def Dk.only (D : Dk) (l : List Int) : Int → List UInt8 × Nat := fun k => if k ∈ l then D.fs k else ([], 0)
theorem only_snoc (D : Dk) (l : List Int) (k : Int) : D.only (l ++ [k]) = fun j => if j = k then D.fs k else D.only l j := by
  funext j
  by_cases hj : j = k
  · subst hj; simp [Dk.only]
  · simp [Dk.only, hj]
theorem only_all (D : Dk) (h0 : ∀ k, (D.fs k).1 = [] → (D.fs k).2 = 0) (h1 : ∀ k, (D.fs k).1 ≠ [] → 0 ≤ k ∧ k < 64) : D.only D.files = D.fs := by
  funext k
  unfold Dk.only
  by_cases hk : k ∈ D.files
  · rw [if_pos hk]
  · rw [if_neg hk]
    have he : (D.fs k).1 = [] := Decidable.byContradiction fun he => hk ((files_mem D k).2 ⟨(h1 k he).1, (h1 k he).2, he⟩)
    rw [← Prod.eta (D.fs k), he, h0 k he]
end Go.Proofs.Ytpehnggglolnoaa

/- Package disk: the contracts in one form; lives. -/
namespace Go.Proofs.Ytpehnggglolnoaa
open Go.RowKit

/-- The disk D lies in block p; its blocks are X. -/
def DAt (w : World) (p : Nat) (X : Nat → Prop) (D : Dk) : Prop := ∃ mb F ks, DiskAt w p mb F ks X D
section
variable {w w' : World} {p q : Nat} {X X' Y Z : Nat → Prop} {D E : Dk}
theorem DAt.xl (h : DAt w p X D) : ∀ b, X b → b < w.heap.size := by obtain ⟨_, _, _, h⟩ := h; exact h.xl
theorem DAt.xp (h : DAt w p X D) : X p := by obtain ⟨_, _, _, h⟩ := h; exact h.xp
theorem DAt.later (h : DAt w p X D) (B : Below w.heap.size w w') : DAt w' p X D := by obtain ⟨_, _, _, h⟩ := h; exact ⟨_, _, _, h.later B⟩
theorem DAt.other (h : DAt w q Z E) (S : DStep X X' w w') (hs : Sep X Z) : DAt w' q Z E := by
  obtain ⟨mb, F, ks, h⟩ := h
  exact ⟨mb, F, ks, h.kept S.size (fun b hb => S.block b (h.xl b hb) (fun hx => hs b hx hb))⟩
end
section
variable (w : World) {p : Nat} {X : Nat → Prop} {D : Dk}
theorem dnew (room : Int) (h0 : 0 ≤ room) (h1 : room ≤ 16777216) : Calls Try.prog 45 #[.int .i64 room] w fun e w' => ∃ p X, e = .returned (.tuple #[.pointer (some ⟨p, 0, none⟩), .int .i64 0]) ∧ DAt w' p X (newD room) ∧ (∀ b, X b → w.heap.size ≤ b) ∧ Below w.heap.size w w' :=
  (new_any room h0 h1 w).mono fun _ _ ⟨he, hD, hB⟩ => ⟨_, _, he, ⟨_, _, _, hD⟩, fun b hb => by rcases hb with rfl | rfl <;> omega, hB⟩
theorem dappend (k : Int) (bv : Value) (b : List UInt8) (h : DAt w p X D) (hb : Rv w bv b.length (b.map vB)) (hbX : Off bv X) (hbl : b.length ≤ 1000000000) :
    Calls Try.prog 44 #[.pointer (some ⟨p, 0, none⟩), .int .i64 k, bv] w fun e w' => e = .returned (.int .i64 (D.append k b).1) ∧ ∃ X', DAt w' p X' (D.append k b).2 ∧ DStep X X' w w' := by
  obtain ⟨mb, F, ks, h⟩ := h
  refine (append_any k bv b w h hb hbX hbl).mono ?_
  rintro e w' ⟨rfl, F', ks', X', hD, S⟩
  exact ⟨rfl, X', ⟨_, _, _, hD⟩, S⟩
theorem dread (k : Int) (h : DAt w p X D) : Calls Try.prog 46 #[.pointer (some ⟨p, 0, none⟩), .int .i64 k] w fun e w' => ∃ v, e = .returned (.tuple #[v, .int .i64 (D.read k).2]) ∧ w'.ownsRow w.heap.size 5 1 v (D.read k).1.length ((D.read k).1.map vB) ∧ Below w.heap.size w w' := by
  obtain ⟨mb, F, ks, h⟩ := h
  refine (dkRead_any k w h).mono ?_
  rintro e w' ⟨v, rfl, M⟩
  have := M.1
  rw [List.length_map] at this
  exact ⟨v, rfl, this, M.2⟩
theorem dtrunc (k s : Int) (hs : s ≤ 9223372036854775807) (h : DAt w p X D) : Calls Try.prog 47 #[.pointer (some ⟨p, 0, none⟩), .int .i64 k, .int .i64 s] w fun e w' => e = .returned (.int .i64 (D.trunc k s).1) ∧ ∃ X', DAt w' p X' (D.trunc k s).2 ∧ DStep X X' w w' := by
  obtain ⟨mb, F, ks, h⟩ := h
  refine (trunc_any k s hs w h).mono ?_
  rintro e w' ⟨rfl, F', ks', X', hD, S⟩
  exact ⟨rfl, X', ⟨_, _, _, hD⟩, S⟩
theorem dsync (h : DAt w p X D) : Calls Try.prog 48 #[.pointer (some ⟨p, 0, none⟩)] w fun e w' => e = .returned (.int .i64 D.sync.1) ∧ DAt w' p X D.sync.2 ∧ DStep X X w w' := by
  obtain ⟨mb, F, ks, h⟩ := h
  refine (sync_any w h).mono ?_
  rintro e w' ⟨rfl, F', ks', hD, S⟩
  exact ⟨rfl, ⟨_, _, _, hD⟩, S⟩
theorem darm (n : Int) (hn : n ≤ 9223372036854775807) (h : DAt w p X D) : Calls Try.prog 12 #[.pointer (some ⟨p, 0, none⟩), .int .i64 n] w fun e w' => e = .returned (.tuple #[]) ∧ DAt w' p X (D.arm n) ∧ DStep X X w w' := by
  obtain ⟨mb, F, ks, h⟩ := h
  refine (arm_any n hn w h).mono ?_
  rintro e w' ⟨rfl, hD, S⟩
  exact ⟨rfl, ⟨_, _, _, hD⟩, S.toD h.xp⟩
theorem dcrash (keep : List Int) (kv : Value) (flip : Int) (hf64 : flip ≤ 9223372036854775807) (hk64 : ∀ x ∈ keep, x ≤ 9223372036854775807) (h : DAt w p X D) (hkv : Rv w kv keep.length (keep.map (Value.int .i64))) (hkX : Off kv X) :
    Calls Try.prog 19 #[.pointer (some ⟨p, 0, none⟩), kv, .int .i64 flip] w fun e w' => e = .returned (.tuple #[]) ∧ DAt w' p X (D.crash keep flip) ∧ DStep X X w w' := by
  obtain ⟨mb, F, ks, h⟩ := h
  refine (crash_any keep kv flip hf64 hk64 w h hkv hkX).mono ?_
  rintro e w' ⟨rfl, F', ks', hD, S⟩
  exact ⟨rfl, ⟨_, _, _, hD⟩, S⟩
theorem dused (h : DAt w p X D) : Calls Try.prog 41 #[.pointer (some ⟨p, 0, none⟩)] w fun e w' => e = .returned (.int .i64 (D.used : Int)) ∧ ∃ n, w' = w.drewN n := by
  obtain ⟨mb, F, ks, h⟩ := h
  exact used_any w h
theorem dfiles (h : DAt w p X D) : Calls Try.prog 57 #[.pointer (some ⟨p, 0, none⟩)] w fun e w' => ∃ v, e = .returned v ∧ w'.ownsRow w.heap.size 3 1 v D.files.length (D.files.map (Value.int .i64)) ∧ Below w.heap.size w w' := by
  obtain ⟨mb, F, ks, h⟩ := h
  refine (files_any w h).mono ?_
  rintro e w' ⟨v, rfl, M⟩
  have := M.1
  rw [List.length_map] at this
  exact ⟨v, rfl, this, M.2⟩
end
def lv1 : Dk := ((newD 100).append 3 [1, 2]).2
def lv2 : Dk := lv1.sync.2
def lv3 : Dk := (lv2.append 3 [255]).2
def lv4 : Dk := lv3.crash [1] 7
def lv5 : Dk := lv3.crash [] 7
def lv6 : Dk := lv5.arm 0
def lv7 : Dk := (lv6.append 1 []).2
theorem lv4_read : lv4.read 3 = ([1, 2, 254], 0) := by kernel_rfl
theorem lv5_read : lv5.read 3 = ([1, 2], 0) := by kernel_rfl
theorem lv6_append : (lv6.append 1 []).1 = 19 := by kernel_rfl
theorem lv7_read : lv7.read 3 = ([], 19) := by kernel_rfl
end Go.Proofs.Ytpehnggglolnoaa

/- Disks, plainly: what every disk is, what a crash leaves. -/
namespace Go.Proofs.Ytpehnggglolnoaa
open Go.RowKit

/-- What every disk is. -/
structure DOk (D : Dk) : Prop where
  out : ∀ k : Int, ¬ (0 ≤ k ∧ k < 64) → D.fs k = ([], 0)
  dur : ∀ k, (D.fs k).2 ≤ (D.fs k).1.length
  room : 0 ≤ D.room ∧ D.room ≤ 16777216
  used : (D.used : Int) ≤ D.room
  left : D.left ≤ 9223372036854775807
theorem DiskX.ok {ex : Int → Prop} {w : World} {p mb : Nat} {F : Int → Option Value} {ks : List Int} {X : Nat → Prop} {D : Dk} (h : DiskX ex w p mb F ks X D) : DOk D := by
  refine ⟨fun k hk => ?_, h.dur, h.room, h.used, h.left⟩
  have he : (D.fs k).1 = [] := Decidable.byContradiction fun he => hk ⟨(h.ful k he).1, (h.ful k he).2.1⟩
  rw [← Prod.eta (D.fs k), he, (h.emp k he).2]
theorem DAt.ok {w : World} {p : Nat} {X : Nat → Prop} {D : Dk} (h : DAt w p X D) : DOk D := by obtain ⟨_, _, _, h⟩ := h; exact h.ok
theorem put_ok {D : Dk} (h : DOk D) {k : Int} (hk : 0 ≤ k ∧ k < 64) {b : List UInt8} {d : Nat} (hd : d ≤ b.length) (hu : ((D.put k b d).used : Int) ≤ D.room) : DOk (D.put k b d) := by
  refine ⟨fun j hj => ?_, fun j => ?_, h.room, hu, h.left⟩
  · have : ¬ j = k := fun e => hj (e ▸ hk)
    simp only [Dk.put, if_neg this]
    exact h.out j hj
  · by_cases e : j = k
    · subst e
      simp only [Dk.put, if_true]
      show (if b = [] then 0 else d) ≤ b.length
      split <;> omega
    · simp only [Dk.put, if_neg e]
      exact h.dur j
theorem put_fs0 (D : Dk) (k : Int) (b : List UInt8) (d : Nat) : (D.put k b d).fs k = (b, if b = [] then 0 else d) := by simp [Dk.put]
theorem put_fs1 (D : Dk) {k j : Int} (b : List UInt8) (d : Nat) (h : j ≠ k) : (D.put k b d).fs j = D.fs j := by simp [Dk.put, h]

/-- Some of the loose bytes are gone. -/
def CutOf (D E : Dk) : Prop := ∀ k, (E.fs k).2 = (D.fs k).2 ∧ ∃ t, t ≤ (D.fs k).1.length - (D.fs k).2 ∧ (E.fs k).1 = (D.fs k).1.take ((D.fs k).2 + t)
theorem CutOf.refl {D : Dk} (h : DOk D) : CutOf D D := fun k => ⟨rfl, (D.fs k).1.length - (D.fs k).2, Nat.le_refl _, by
  have := h.dur k
  rw [List.take_of_length_le (by omega)]⟩
theorem cutI_of {D : Dk} (h : DOk D) (keep fl : List Int) : ∀ i, CutOf D (D.cutI keep fl i).1
  | 0 => CutOf.refl h
  | i + 1 => fun k => by
    have ih := cutI_of h keep fl i
    show (((D.cutI keep fl i).1.put _ _ _).fs k).2 = _ ∧ _
    have hd := h.dur k
    by_cases e : k = fl[i]?.getD 0
    · rw [← e]
      obtain ⟨h1, t, ht, h2⟩ := ih k
      generalize hE : (D.cutI keep fl i).1 = E at h1 h2 ⊢
      have hk := keptN_le keep i ((E.fs k).1.length - (E.fs k).2)
      obtain ⟨s, hs⟩ : ∃ s, keptN keep i ((E.fs k).1.length - (E.fs k).2) = s := ⟨_, rfl⟩
      have hb : ((Dk.cutI D keep fl (i + 1)).1.fs k).1 = (E.fs k).1.take ((E.fs k).2 + s) := by
        show (((D.cutI keep fl i).1.put _ _ _).fs k).1 = _
        rw [← e, hE, hs, put_fs0]
      have hlen : (E.fs k).1.length = (D.fs k).2 + t := by rw [h2, List.length_take]; omega
      rw [hs] at hk ⊢
      refine ⟨?_, s, by omega, ?_⟩
      · rw [put_fs0]
        show (if _ then _ else _) = _
        split
        · rename_i e2
          have e3 := congrArg List.length e2
          rw [List.length_take, List.length_nil] at e3
          omega
        · exact h1
      · rw [hb, h1, h2, List.take_take]
        congr 1
        omega
    · rw [put_fs1 _ _ _ e]
      have : ((Dk.cutI D keep fl (i + 1)).1.fs k) = ((D.cutI keep fl i).1.fs k) := by
        show (((D.cutI keep fl i).1.put _ _ _).fs k) = _
        rw [put_fs1 _ _ _ e]
      rw [this]
      exact ih k
/-- A bit is inverted, or none. -/
theorem invertL_of (E : Dk) : ∀ (l : List Int) (n : Nat), E.invertL l n = E ∨ ∃ k ∈ l, ∃ m, 8 * (E.fs k).2 ≤ m ∧ m < 8 * (E.fs k).1.length ∧ E.invertL l n = E.put k (flipB (E.fs k).1 m) (E.fs k).2
  | [], _ => .inl rfl
  | k :: l, n => by
    rw [Dk.invertL]
    split
    · rename_i h
      exact .inr ⟨k, by simp, 8 * (E.fs k).2 + n, by omega, by omega, rfl⟩
    · rcases invertL_of E l (n - 8 * ((E.fs k).1.length - (E.fs k).2)) with h | ⟨j, hj, m, h1, h2, h3⟩
      · exact .inl h
      · exact .inr ⟨j, by simp [hj], m, h1, h2, h3⟩
theorem flipB_take (b : List UInt8) {n d : Nat} (h : 8 * d ≤ n) : (flipB b n).take d = b.take d := by
  apply List.ext_getElem?
  intro j
  rw [List.getElem?_take, List.getElem?_take]
  split
  · have hne : ¬ n / 8 = j := by omega
    unfold flipB
    rw [List.getElem?_modify]
    simp [hne]
  · rfl
/-- What a crash leaves of a file: what was durable, and no more than there was. -/
theorem crash_keeps {D : Dk} (h : DOk D) (keep : List Int) (flip : Int) (k : Int) :
    (D.fs k).2 ≤ ((D.crash keep flip).fs k).1.length ∧ ((D.crash keep flip).fs k).1.length ≤ (D.fs k).1.length ∧ ((D.crash keep flip).fs k).1.take (D.fs k).2 = (D.fs k).1.take (D.fs k).2 := by
  obtain ⟨E, hE⟩ : ∃ E, (D.cutI keep D.files D.files.length).1 = E := ⟨_, rfl⟩
  obtain ⟨s, hs⟩ : ∃ s, (D.cutI keep D.files D.files.length).2 = s := ⟨_, rfl⟩
  have hc := cutI_of h keep D.files D.files.length k
  rw [hE] at hc
  obtain ⟨h1, t, ht, h2⟩ := hc
  have hd := h.dur k
  have hfs : ((D.crash keep flip).fs k).1 = ((if 0 ≤ flip ∧ 0 < s then E.invertL E.files (flip.toNat % (8 * s)) else E).fs k).1 := by
    rw [← hE, ← hs]
    rfl
  rw [hfs]
  have base : (D.fs k).2 ≤ (E.fs k).1.length ∧ (E.fs k).1.length ≤ (D.fs k).1.length ∧ (E.fs k).1.take (D.fs k).2 = (D.fs k).1.take (D.fs k).2 := by
    rw [h2]
    refine ⟨by rw [List.length_take]; omega, by rw [List.length_take]; omega, ?_⟩
    rw [List.take_take]
    congr 1
    omega
  split
  · rcases invertL_of E E.files (flip.toNat % (8 * s)) with h3 | ⟨j, _, m, h4, h5, h6⟩
    · rw [h3]; exact base
    · rw [h6]
      by_cases e : k = j
      · subst e
        rw [put_fs0]
        show _ ≤ (flipB _ _).length ∧ (flipB _ _).length ≤ _ ∧ (flipB _ _).take _ = _
        rw [flipB_len, flipB_take _ (by rw [← h1]; exact h4)]
        exact base
      · rw [put_fs1 _ _ _ e]
        exact base
  · exact base
theorem crash_on (D : Dk) (keep : List Int) (flip : Int) : (D.crash keep flip).off = false := rfl
/-- A disk on which all is durable. -/
theorem crash_same {D : Dk} (h : DOk D) (hd : ∀ k, (D.fs k).2 = (D.fs k).1.length) (keep : List Int) (flip : Int) (k : Int) : ((D.crash keep flip).fs k).1 = (D.fs k).1 := by
  obtain ⟨h1, h2, h3⟩ := crash_keeps h keep flip k
  rw [hd k] at h1 h3
  rw [List.take_of_length_le h2, List.take_of_length_le (Nat.le_refl _)] at h3
  exact h3
/-- What is appended lies behind. -/
structure ExtOf (D E : Dk) : Prop where
  on : E.off = false
  armed : E.armed = false
  dur : ∀ k, (E.fs k).2 = (D.fs k).2
  pre : ∀ k, (D.fs k).1 <+: (E.fs k).1
theorem ExtOf.append {D E : Dk} (h : ExtOf D E) (hE : DOk E) (k : Int) (b : List UInt8) : ExtOf D (E.append k b).2 := by
  unfold Dk.append
  split
  · exact h
  · split
    · exact h
    · split
      · exact h
      · have hf : E.fails = E := by unfold Dk.fails; rw [h.armed]; rfl
        rw [hf]
        refine ⟨h.on, h.armed, fun j => ?_, fun j => ?_⟩
        · by_cases e : j = k
          · subst e
            show ((E.put j _ _).fs j).2 = _
            rw [put_fs0]
            show (if _ then _ else _) = _
            split
            · rename_i e2
              have := hE.dur j
              rw [(List.append_eq_nil_iff.1 e2).1, List.length_nil] at this
              rw [← h.dur j]
              omega
            · exact h.dur j
          · show ((E.put k _ _).fs j).2 = _
            rw [put_fs1 _ _ _ e]
            exact h.dur j
        · by_cases e : j = k
          · subst e
            show _ <+: ((E.put j _ _).fs j).1
            rw [put_fs0]
            exact (h.pre j).trans (List.prefix_append _ _)
          · show _ <+: ((E.put k _ _).fs j).1
            rw [put_fs1 _ _ _ e]
            exact h.pre j
theorem rv_cut {W : World} {a : Option Addr} {n c : Nat} {l : List UInt8} (h : Rv W (.slice a n c) n (l.map vB)) (s : Nat) (hs : s ≤ n) : Rv W (.slice a s c) s ((l.take s).map vB) := by
  obtain ⟨ao, cap, e, _, hF⟩ := h.firsts s hs
  injection e with e1 e2 e3
  subst e1 e3
  rw [List.map_take]
  exact hF s rfl
theorem rv_piece {W : World} {g n c : Nat} {us : List Value} (h : Rv W (.slice (some ⟨g, 0, none⟩) n c) n us) (o t : Nat) (h1 : o ≤ t) (h2 : t ≤ n) (h3 : ¬ c = o) : Rv W (.slice (some ⟨g, o, none⟩) (t - o) (c - o)) (t - o) ((us.drop o).take (t - o)) := by
  obtain ⟨ao, cap, e, _, hr⟩ := h.sliced 1 o t h1 h2
  injection e with e1 e2 e3
  subst e1 e3
  rw [if_neg h3] at hr
  have e : (some (⟨g, 0, none⟩ : Addr)).map (·.add (o * 1)) = some ⟨g, o, none⟩ := by
    simp only [Option.map_some, Nat.mul_one, Addr.add]
    by_cases h0 : o = 0
    · subst h0; simp
    · simp [h0]
  rw [e, Nat.mul_one, Nat.mul_one] at hr
  exact hr
theorem append_other (D : Dk) (k : Int) (b : List UInt8) (j : Int) (h : j ≠ k) : (D.append k b).2.fs j = D.fs j := by
  unfold Dk.append
  split
  · rfl
  · split
    · rfl
    · split
      · rfl
      · show (D.fails.put k _ _).fs j = _
        rw [put_fs1 _ _ _ h, (fails_fs D).1]
theorem append_ok {D : Dk} (hD : DOk D) (k : Int) (b : List UInt8) (ha : D.armed = false) : DOk (D.append k b).2 := by
  have hf : D.fails = D := by unfold Dk.fails; rw [ha]; rfl
  unfold Dk.append
  split
  · exact hD
  · rename_i hk
    split
    · exact hD
    · split
      · exact hD
      · rename_i hr
        have hk2 : 0 ≤ k ∧ k < 64 := Decidable.byContradiction hk
        rw [hf]
        have hd := hD.dur k
        refine put_ok hD hk2 (by rw [List.length_append]; omega) ?_
        have := D.used_put k ((D.fs k).1 ++ b) (D.fs k).2 hk2.1 hk2.2
        rw [List.length_append] at this
        omega
/-- What is read after the crash, against what was there at the Sync. -/
theorem crash_ext {H E : Dk} (hE : DOk E) (h : ExtOf H E) (hd : ∀ k, (H.fs k).2 = (H.fs k).1.length) (keep : List Int) (flip : Int) (k : Int) :
    (H.fs k).1.length ≤ ((E.crash keep flip).fs k).1.length ∧ ((E.crash keep flip).fs k).1.length ≤ (E.fs k).1.length ∧ ((E.crash keep flip).fs k).1.take (H.fs k).1.length = (H.fs k).1 := by
  obtain ⟨h1, h2, h3⟩ := crash_keeps hE keep flip k
  rw [h.dur k, hd k] at h1 h3
  refine ⟨h1, h2, ?_⟩
  rw [h3]
  obtain ⟨t, ht⟩ := h.pre k
  rw [← ht, List.take_left]
/-- An Append that fits. -/
theorem app_fits {D : Dk} (k : Int) (b : List UInt8) (hk : 0 ≤ k ∧ k < 64) (ho : D.off = false) (ha : D.armed = false) (hu : (D.used : Int) + b.length ≤ D.room) : D.append k b = (0, D.put k ((D.fs k).1 ++ b) (D.fs k).2) := by
  have hf : D.fails = D := by unfold Dk.fails; rw [ha]; rfl
  have hb : D.failsB = false := by unfold Dk.failsB; rw [ha]; rfl
  unfold Dk.append
  rw [if_neg (fun h => h hk), ho, if_neg (by simp), if_neg (by omega), hb, hf]
  rfl
def Only (D : Dk) (k : Int) : Prop := ∀ j, j ≠ k → (D.fs j).1 = []
theorem only_files {D : Dk} {k : Int} (h : Only D k) (hk : 0 ≤ k ∧ k < 64) (hne : (D.fs k).1 ≠ []) : D.files = [k] := by
  have hp : D.files.Perm [k] := (List.perm_ext_iff_of_nodup (files_nodup D) (by simp)).2 (fun j => by
    rw [files_mem, List.mem_singleton]
    constructor
    · rintro ⟨_, _, h3⟩
      exact Decidable.byContradiction fun e => h3 (h j e)
    · rintro rfl
      exact ⟨hk.1, hk.2, hne⟩)
  exact List.perm_singleton.1 hp
theorem only_files0 {D : Dk} {k : Int} (h : Only D k) (hne : (D.fs k).1 = []) : D.files = [] := by
  refine List.eq_nil_iff_forall_not_mem.2 (fun j hj => ?_)
  obtain ⟨_, _, h3⟩ := (files_mem D j).1 hj
  by_cases e : j = k
  · subst e; exact h3 hne
  · exact h3 (h j e)
/-- What a crash leaves of a disk's only file. -/
theorem crash_one {D : Dk} (h : DOk D) {k : Int} (ho : Only D k) (hk : 0 ≤ k ∧ k < 64) {bs : List UInt8} {d t : Nat} (hb : (D.fs k).1 = bs) (hd : (D.fs k).2 = d) (keep : List Int) (ht : keptN keep 0 (bs.length - d) = t) (flip : Int) :
    ((D.crash keep flip).fs k).1 = if 0 ≤ flip ∧ 0 < t then flipB (bs.take (d + t)) (8 * d + flip.toNat % (8 * t)) else bs.take (d + t) := by
  have hdl := h.dur k
  rw [hb, hd] at hdl
  have htl := keptN_le keep 0 (bs.length - d)
  rw [ht] at htl
  by_cases hne : bs = []
  · subst hne
    have hf := only_files0 ho hb
    have h1 : ((D.crash keep flip).fs k).1 = (D.fs k).1 := by
      have hc : D.cutI keep [] 0 = (D, 0) := rfl
      unfold Dk.crash
      rw [hf]
      show ((if 0 ≤ flip ∧ 0 < (D.cutI keep [] 0).2 then (D.cutI keep [] 0).1.invertL (D.cutI keep [] 0).1.files (flip.toNat % (8 * (D.cutI keep [] 0).2)) else (D.cutI keep [] 0).1).fs k).1 = _
      rw [hc, if_neg (by omega)]
    rw [h1, hb, if_neg (by rw [List.length_nil] at htl; omega), List.take_nil]
  · have hf := only_files ho hk (by rw [hb]; exact hne)
    have hc : D.cutI keep [k] 1 = (D.put k (bs.take (d + t)) d, 0 + t) := by
      show Prod.mk (D.put k ((D.fs k).1.take ((D.fs k).2 + keptN keep 0 ((D.fs k).1.length - (D.fs k).2))) (D.fs k).2) (0 + keptN keep 0 ((D.fs k).1.length - (D.fs k).2)) = _
      rw [hb, hd, ht]
    have hcr : ((D.crash keep flip).fs k).1 = ((if 0 ≤ flip ∧ 0 < 0 + t then (D.put k (bs.take (d + t)) d).invertL (D.put k (bs.take (d + t)) d).files (flip.toNat % (8 * (0 + t))) else D.put k (bs.take (d + t)) d).fs k).1 := by
      unfold Dk.crash
      rw [hf]
      show ((if 0 ≤ flip ∧ 0 < (D.cutI keep [k] 1).2 then (D.cutI keep [k] 1).1.invertL (D.cutI keep [k] 1).1.files (flip.toNat % (8 * (D.cutI keep [k] 1).2)) else (D.cutI keep [k] 1).1).fs k).1 = _
      rw [hc]
    rw [hcr, Nat.zero_add]
    by_cases hfl : 0 ≤ flip ∧ 0 < t
    · rw [if_pos hfl, if_pos hfl]
      have hlen : (bs.take (d + t)).length = d + t := by rw [List.length_take]; omega
      have hne2 : bs.take (d + t) ≠ [] := fun e => by rw [e, List.length_nil] at hlen; omega
      have ho2 : Only (D.put k (bs.take (d + t)) d) k := fun j hj => by rw [put_fs1 _ _ _ hj]; exact ho j hj
      have hf2 := only_files ho2 hk (by rw [put_fs0]; exact hne2)
      rw [hf2, Dk.invertL, put_fs0]
      have hm := Nat.mod_lt flip.toNat (show 0 < 8 * t by omega)
      simp only [if_neg hne2, hlen]
      rw [if_pos (by omega), put_fs0]
    · rw [if_neg hfl, if_neg hfl, put_fs0]
end Go.Proofs.Ytpehnggglolnoaa
