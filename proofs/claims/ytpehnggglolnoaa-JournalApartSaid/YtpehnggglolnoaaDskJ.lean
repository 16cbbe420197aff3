/- Package disk: Crash. -/
import Derived.Test.YtpehnggglolnoaaDskI
import Derived.Deep.QuietTactic
namespace Go.Proofs.Ytpehnggglolnoaa
open Go.RowKit

theorem own_at {α : Type} {W : World} {base n c i : Nat} {e : TypeId} {a : Option Addr} {l : List α} {f : α → Value} {k : α} (h : W.ownsRow base e 1 (.slice a n c) n (l.map f)) (hk : l[i]? = some k) : ∃ g off, a = some ⟨g, off, none⟩ ∧ W.cell? ⟨g, off + i, none⟩ = some (f k) ∧ base ≤ g := by
  obtain ⟨a', c', e, _, hr⟩ := (Rv.of_own h).opened
  injection e with e1
  rw [← e1] at hr
  obtain ⟨g, off, ha, hc⟩ := hr.cell (i := i) (u := f k) (by rw [List.getElem?_map, hk]; rfl)
  exact ⟨g, off, ha, hc, (h.lt g (by rw [ha]; rfl)).1⟩
theorem rv_at {α : Type} {W : World} {n c i : Nat} {a : Option Addr} {l : List α} {f : α → Value} {k : α} (h : Rv W (.slice a n c) n (l.map f)) (hk : l[i]? = some k) : ∃ g off, a = some ⟨g, off, none⟩ ∧ W.cell? ⟨g, off + i, none⟩ = some (f k) := by
  obtain ⟨a', c', e, _, hr⟩ := h.opened
  injection e with e1
  rw [← e1] at hr
  exact hr.cell (i := i) (u := f k) (by rw [List.getElem?_map, hk]; rfl)
/-- How many loose bytes of the i-th file are kept. -/
def keptN (keep : List Int) (i L : Nat) : Nat := match keep[i]? with
  | none => 0
  | some x => min x.toNat L
theorem keptN_le (keep : List Int) (i L : Nat) : keptN keep i L ≤ L := by unfold keptN; split <;> omega
/-- The first i files, cut; and the loose bytes kept. -/
def Dk.cutI (D : Dk) (keep fl : List Int) : Nat → Dk × Nat
  | 0 => (D, 0)
  | i + 1 => let E := D.cutI keep fl i
             let k := fl[i]?.getD 0
             let t := keptN keep i ((E.1.fs k).1.length - (E.1.fs k).2)
             (E.1.put k ((E.1.fs k).1.take ((E.1.fs k).2 + t)) (E.1.fs k).2, E.2 + t)
theorem cutI_room (D : Dk) (keep fl : List Int) (i : Nat) : (D.cutI keep fl i).1.room = D.room := by
  induction i with
  | zero => rfl
  | succ i ih => exact ih
def Dk.crash (D : Dk) (keep : List Int) (flip : Int) : Dk :=
  let E := D.cutI keep D.files D.files.length
  let E2 := if 0 ≤ flip ∧ 0 < E.2 then E.1.invertL E.1.files (flip.toNat % (8 * E.2)) else E.1
  { E2.harden with off := false, armed := false, left := 0 }
set_option maxRecDepth 20000 in
set_option maxHeartbeats 2000000 in
theorem crash_any (keep : List Int) (kv : Value) (flip : Int) (hf64 : flip ≤ 9223372036854775807) (hk64 : ∀ x ∈ keep, x ≤ 9223372036854775807) (w : World) {p mb : Nat} {F : Int → Option Value} {ks : List Int} {X : Nat → Prop} {D : Dk} (h : DiskAt w p mb F ks X D)
    (hkv : Rv w kv keep.length (keep.map (Value.int .i64))) (hkX : ∀ x, kv.ownBlock = some x → ¬ X x) :
    Calls Try.prog 19 #[.pointer (some ⟨p, 0, none⟩), kv, .int .i64 flip] w fun e w' => e = .returned (.tuple #[]) ∧ ∃ F' ks', DiskAt w' p mb F' ks' X (D.crash keep flip) ∧ DStep X X w w' := by
  obtain ⟨R, hR⟩ : ∃ R, D.crash keep flip = R := ⟨_, rfl⟩
  rw [hR]
  unfold Dk.crash at hR
  obtain ⟨ak, ck, rfl, _, _⟩ := hkv.opened
  have HR := Lib.hid hR
  clear hR
  go_enter Try.func19, Try.ntmps19
  go_wp2_with fail
  refine (files_any w h).mono ?_
  rintro e w1 ⟨v, rfl, hM⟩
  have hM1 := hM.1
  rw [List.length_map] at hM1
  obtain ⟨a, c, rfl⟩ := own_isSlice hM1
  have H1 := h.later hM.2
  have S1 := DStep.ofBelow X hM.2
  have K1 := hkv.below hM.2
  have HX := Lib.hid h.xl
  have hfl := files_len D
  have HMEM := Lib.hid (files_mem D)
  have HK64 := Lib.hid hk64
  obtain ⟨fl, hfe⟩ : ∃ l, D.files = l := ⟨_, rfl⟩
  rw [hfe] at hM1 hfl HMEM HR ⊢
  obtain ⟨n, hn⟩ : ∃ n, fl.length = n := ⟨_, rfl⟩
  rw [hn] at hM1 hfl HR ⊢
  have HN := Lib.hid hn
  have hkl2 : keep.length ≤ maxLen := hkv.len
  obtain ⟨kn, hkn⟩ : ∃ kn, keep.length = kn := ⟨_, rfl⟩
  rw [hkn] at K1 hkl2 hkX ⊢
  have HKX := Lib.hid hkX
  have HKN := Lib.hid hkn
  clear hM hn hfe h hkX hk64 hkv hkn
  go_wp2_with fail
  go_loopw [7, 16] (fun u v W => ∃ (i s : Nat) (F' : Int → Option Value) (ks' : List Int), u = .int .i64 (s : Int) ∧ v = .int .i64 (i : Int) ∧ i ≤ n ∧ s ≤ i * 16777216 ∧ Hid ((D.cutI keep fl i).2 = s) ∧ DiskAt W p mb F' ks' X (D.cutI keep fl i).1 ∧ W.ownsRow w.heap.size 3 1 (.slice a n c) n (fl.map (Value.int .i64)) ∧ Rv W (.slice ak kn ck) kn (keep.map (Value.int .i64)) ∧ DStep X X w W) (fun _ v _ => n - (match v with | .int _ k => k.toNat | _ => 0))
  case atStart => exact ⟨0, 0, F, ks, rfl, rfl, Nat.zero_le _, by simp, rfl, H1, hM1, K1, S1⟩
  case round =>
    rename World => W
    obtain ⟨i, s, F2, ks2, rfl, rfl, hin, hs, HS, H2, O2, K2, S2⟩ := hrel
    by_cases hlt : i < n
    · obtain ⟨k, hk⟩ : ∃ k, fl[i]? = some k := ⟨_, List.getElem?_eq_getElem (by rw [HN.out]; exact hlt)⟩
      have hkm := (HMEM.out k).1 (List.mem_of_getElem? hk)
      obtain ⟨E, hE⟩ : ∃ E, (D.cutI keep fl i).1 = E := ⟨_, rfl⟩
      have hnx : D.cutI keep fl (i + 1) = (E.put k ((E.fs k).1.take ((E.fs k).2 + keptN keep i ((E.fs k).1.length - (E.fs k).2))) (E.fs k).2, s + keptN keep i ((E.fs k).1.length - (E.fs k).2)) := by
        rw [← hE, ← HS.out]
        show Prod.mk _ _ = _
        rw [hk]
        rfl
      rw [hE] at H2
      clear hE
      obtain ⟨g, off, ha, hc, hgb⟩ := own_at O2 hk
      subst ha
      obtain ⟨a2, c2, hlook, hown, hblk⟩ := H2.old k
      have hlk := H2.look2 k hlook W rfl
      have hc2 := H2.c2
      have hdur := H2.dur k
      have hl1 := E.le_used k hkm.1 hkm.2.1
      have hl2 := H2.used
      have hl3 := H2.room
      have hgX : ∀ x, X x → x < w.heap.size := HX.out
      obtain ⟨bs, hbs⟩ : ∃ b, (E.fs k).1 = b := ⟨_, rfl⟩
      obtain ⟨d, hd⟩ : ∃ b, (E.fs k).2 = b := ⟨_, rfl⟩
      rw [hbs] at hlook hown hblk hlk hnx hdur hl1
      rw [hd] at hlook hlk hnx hdur
      obtain ⟨L, hL⟩ : ∃ L, bs.length = L := ⟨_, rfl⟩
      rw [hL] at hlook hown hblk hlk hnx hdur hl1
      have hL24 : L ≤ 16777216 := by omega
      have hcap : L ≤ c2 := by
        obtain ⟨_, _, e, h, _⟩ := (Rv.of_own hown).opened
        cases e
        exact h
      obtain ⟨M, hM⟩ : ∃ M, L - d = M := ⟨_, rfl⟩
      have hMi : (L : Int) - (d : Int) = (M : Int) := by omega
      rw [hM] at hnx
      obtain ⟨t, ht⟩ : ∃ t, keptN keep i M = t := ⟨_, rfl⟩
      have htM : t ≤ M := by rw [← ht]; exact keptN_le _ _ _
      rw [ht] at hnx
      have HNX := Lib.hid hnx
      have HT := Lib.hid ht
      have HBS := Lib.hid hbs
      have HD := Lib.hid hd
      have HL := Lib.hid hL
      have HMM := Lib.hid hM
      have HLK := Lib.hid hlook
      clear hnx ht hbs hd hL hlook hk hM hl1 hl2 hl3
      go_upto_region 7 with fail
      have BA := (Below.refl W.heap.size W).alloc (Nat.le_refl _) (.cells #[.slice a2 L c2, .int .i64 (d : Int)] 105)
      have hf := World.alloc_heap_new W (.cells #[.slice a2 L c2, .int .i64 (d : Int)] 105)
      have H3 := H2.later BA
      have O3 := own_below O2 BA
      have K3 := K2.below BA
      have SW := DStep.ofBelow X BA
      have S3 := S2.trans (DStep.ofBelow X BA)
      have W3 := own_below hown BA
      have hfl3 : ∀ x, (Value.slice a2 L c2).ownBlock = some x → x < W.heap.size := fun x hx => (hown.lt x hx).2
      have hXf : ∀ x, X x → x < W.heap.size := H2.xl
      have hgf : (Value.slice (some ⟨g, off, none⟩) n c).ownBlock ≠ some W.heap.size := fun e => by have := (O2.lt _ e).2; omega
      generalize W.alloc (.cells #[.slice a2 L c2, .int .i64 (d : Int)] 105) = w3 at H3 O3 S3 W3 K3 SW hf ⊢
      have hWf : W.heap.size ≤ W.heap.size := Nat.le_refl _
      generalize hfbe : W.heap.size = fb at hf hfl3 hXf hgf ⊢
      replace hWf : W.heap.size ≤ fb := by rw [← hfbe]; exact hWf
      clear hfbe
      clear H2 O2 hlk hc2 BA hc hown
      have f0 : w3.cell? ⟨fb, 0, none⟩ = some (.slice a2 L c2) := by simp [World.cell?, hf]
      have f1 : w3.cell? ⟨fb, 1, none⟩ = some (.int .i64 (d : Int)) := by simp [World.cell?, hf]
      have f0d : w3.drew.cell? ⟨fb, 0, none⟩ = some (.slice a2 L c2) := f0
      have f1d : w3.drew.cell? ⟨fb, 1, none⟩ = some (.int .i64 (d : Int)) := f1
      go_upto_if 30 with fail
      obtain ⟨bq, hbq⟩ : ∃ b, decide (i < kn) = b := ⟨_, rfl⟩
      rw [hbq]
      go_cut [11] from 31 to 42 (fun u wx => u = .int .i64 (t : Int) ∧ Below w3.heap.size w3 wx)
      case first =>
        cases bq with
        | true =>
          have hik : i < kn := of_decide_eq_true hbq
          obtain ⟨x, hx⟩ : ∃ x, keep[i]? = some x := ⟨_, List.getElem?_eq_getElem (by rw [HKN.out]; exact hik)⟩
          obtain ⟨gk, offk, hak, hck⟩ := rv_at K3 hx
          subst hak
          have hckd : w3.drew.cell? ⟨gk, offk + i, none⟩ = some (.int .i64 x) := hck
          have hiki : (i : Int) < (kn : Int) := by omega
          have hx64 := HK64.out x (List.mem_of_getElem? hx)
          have htx : t = min x.toNat M := by rw [← HT.out]; unfold keptN; rw [hx]
          go_wp2_with fail
          go_quiet (fail)
          go_wp2_with fail
          go_meet
          refine ⟨?_, belD (Below.refl _ _) nq⟩
          rw [htx]
          congr 1
          omega
        | false =>
          have hik : ¬ i < kn := of_decide_eq_false hbq
          have hiki : ¬ (i : Int) < (kn : Int) := by omega
          have ht0 : t = 0 := by rw [← HT.out]; unfold keptN; rw [List.getElem?_eq_none (by rw [HKN.out]; omega)]
          subst ht0
          go_wp2_with fail
          go_meet
          exact ⟨by simp, Below.refl _ _⟩
      case rest =>
      rename World => w4
      obtain ⟨rfl, B4⟩ := hcut
      have hfl := (Array.getElem?_eq_some_iff.1 hf).1
      have hf4 := (B4.block fb hfl).trans hf
      have H4 := H3.later B4
      have O4 := own_below O3 B4
      have S4 := S3.trans (DStep.ofBelow X B4)
      have SW4 := SW.trans (DStep.ofBelow X B4)
      have W4 := own_below W3 B4
      clear H3 O3 S3 SW W3 K3 f0 f1 f0d f1d hf B4 hfl
      have f0 : w4.cell? ⟨fb, 0, none⟩ = some (.slice a2 L c2) := by simp [World.cell?, hf4]
      have f1 : w4.cell? ⟨fb, 1, none⟩ = some (.int .i64 (d : Int)) := by simp [World.cell?, hf4]
      have fz : ∀ j, w4.frozen? ⟨fb, j, none⟩ = false := fun j => by simp [World.frozen?, hf4]
      have hdt : (d : Int) + (t : Int) ≤ (c2 : Int) := by omega
      go_upto_region 10 with fail
      have H5 := H4.kept (w' := w4.setCell ⟨fb, 0, none⟩ (.slice a2 (d + t) c2)) (by simp) (fun x hx => Below.heap_setCell _ _ _ _ (by have := hXf x hx; show x ≠ fb; omega))
      have O5 := own_same (w' := w4.setCell ⟨fb, 0, none⟩ (.slice a2 (d + t) c2)) O4 (fun x hx => Below.heap_setCell _ _ _ _ (fun e => hgf (by rw [hx, e])))
      have W5 := own_same (w' := w4.setCell ⟨fb, 0, none⟩ (.slice a2 (d + t) c2)) W4 (fun x hx => Below.heap_setCell _ _ _ _ (by have := hfl3 x hx; show x ≠ fb; omega))
      have hf5 := setBlk hf4 0 (.slice a2 (d + t) c2)
      simp only [List.setIfInBounds_toArray, List.set_cons_zero] at hf5
      have hfbW : W.heap.size ≤ fb := hWf
      have SW5 : DStep X X W (w4.setCell ⟨fb, 0, none⟩ (.slice a2 (d + t) c2)) := ⟨SW4.os, SW4.tape, SW4.output, by rw [World.size_setCell]; exact SW4.size, fun j hj hX => (Below.heap_setCell _ _ _ _ (by show j ≠ fb; omega)).trans (SW4.block j hj hX), fun j hj => .inl hj⟩
      have S5 := S2.trans SW5
      have htl : (bs.take (d + t)).length = d + t := by rw [List.length_take, HL.out]; omega
      have hcut := own_cut W5 (d + t) (by omega)
      rw [← List.map_take] at hcut
      generalize w4.setCell ⟨fb, 0, none⟩ (.slice a2 (d + t) c2) = w5 at H5 O5 W5 hf5 SW5 S5 hcut ⊢
      clear H4 O4 S4 SW4 W4 hf4 f0 f1 fz
      have k0 : w5.cell? ⟨fb, 0, none⟩ = some (.slice a2 (d + t) c2) := by simp [World.cell?, hf5]
      have k1 : w5.cell? ⟨fb, 1, none⟩ = some (.int .i64 (d : Int)) := by simp [World.cell?, hf5]
      have hroom : ((E.put k (bs.take (d + t)) d).used : Int) ≤ E.room := by
        have h1 := E.used_put k (bs.take (d + t)) d hkm.1 hkm.2.1
        rw [HBS.out, HL.out, htl] at h1
        have h2 := H5.used
        omega
      have hput := put_any k a2 c2 d (bs.take (d + t)) w5 (H5.weak (fun j => j = k)) hkm.1 hkm.2.1 (by rw [htl]; exact hcut) (fun x hx => (hblk x (by
        rw [htl] at hx
        cases a2 with
        | none => cases hx
        | some q => exact hx)).2) (by rw [htl]; omega) hroom
      rw [htl] at hput
      have hputX : ∀ x, (X x ∨ (Value.slice a2 (d + t) c2).ownBlock = some x) ↔ X x := fun x => ⟨fun h => h.elim id (fun hx => (hblk x (by
        cases a2 with
        | none => cases hx
        | some q => exact hx)).1), .inl⟩
      have HPUT := Lib.hid hput
      have HPX := Lib.hid hputX
      have hst : (s : Int) + (t : Int) ≤ 9223372036854775807 := by omega
      clear hput hputX hroom htl hcut W5 hblk
      go_wp2_with fail
      refine HPUT.out.mono ?_
      rintro e w7 ⟨rfl, ⟨F7, ks7, D7⟩, Q7⟩
      have D7' := D7.sameX HPX.out
      have hpX := H5.xp
      have hmX := H5.xm
      have SQ : DStep X X w5 w7 := ⟨Q7.os, Q7.tape, Q7.output, Q7.size, fun j hj hX => Q7.block j hj (fun e => hX (by rw [e]; exact hpX)) (fun e => hX (by rw [e]; exact hmX)), fun j hj => .inl hj⟩
      have O7 := own_same (w' := w7) O5 (fun x hx => SQ.block x (O5.lt x hx).2 (fun hX => by
        have h1 := (O5.lt x hx).1
        have h2 := hgX x hX
        omega))
      have K7 := rvSame (w' := w7) K2 (fun j hj hv => (SW5.trans SQ).block j hj (HKX.out j hv))
      have S7 := S5.trans SQ
      have hnx := HNX.out
      have HS7 : Hid ((D.cutI keep fl (i + 1)).2 = s + t) := Lib.hid (by rw [hnx])
      have hE7 : (D.cutI keep fl (i + 1)).1 = E.put k (bs.take (d + t)) d := by rw [hnx]
      rw [← hE7] at D7'
      clear HPUT HPX D7 H5 hf5 k0 k1 O5 SW5 S5 hnx hE7
      go_wp2_with fail
      refine ⟨⟨i + 1, s + t, _, _, by simp, by simp, hlt, by omega, HS7, D7', O7, K7, S7⟩, ?_⟩
      show n - ((i : Int) + 1).toNat < n - ((i : Int)).toNat
      omega
    · obtain rfl : i = n := by omega
      have hR := HR.out
      obtain ⟨E, hE⟩ : ∃ E, (D.cutI keep fl i).1 = E := ⟨_, rfl⟩
      rw [hE, HS.out] at hR
      rw [hE] at H2
      have hs8 : 8 * s ≤ 8 * (64 * 16777216) := by omega
      clear hE H1 S1 K1
      by_cases hfl : 0 ≤ flip ∧ 0 < s
      · rw [if_pos hfl] at hR
        obtain ⟨fn, rfl⟩ : ∃ fn : Nat, flip = (fn : Int) := ⟨flip.toNat, by omega⟩
        rw [Int.toNat_natCast] at hR
        obtain ⟨b, hb⟩ : ∃ b, fn % (8 * s) = b := ⟨_, rfl⟩
        rw [hb] at hR
        have hbs : b < 8 * s := by rw [← hb]; exact Nat.mod_lt _ (by omega)
        have hmod : ((fn : Int)).tmod (8 * (s : Int)) = (b : Int) := by
          rw [Int.tmod_eq_emod_of_nonneg (by omega), ← hb, Int.natCast_emod]
          rfl
        have hb0 : ¬ (8 * (s : Int)) = 0 := by omega
        have hs0 : (0 : Int) < (s : Int) := by omega
        have hf0 : (0 : Int) ≤ (fn : Int) := by omega
        have hb64 : (b : Int) ≤ 9223372036854775807 := by omega
        have HRR := Lib.hid hR
        clear hR hb
        go_wp2_with fail
        refine (invert_any b hb64 W H2).mono ?_
        rintro e W4 ⟨rfl, H4, S4⟩
        replace S4 := S2.trans S4
        clear H2 S2 K2 O2
        go_wp2_with fail
        refine (harden_any W4 H4).mono ?_
        rintro e w5 ⟨rfl, F5, ks5, H5, S5⟩
        have S5' := S4.trans S5
        have c3 := H5.c3
        have c4 := H5.c4
        have c5 := H5.c5
        have fz := fun j => H5.fz j
        have hb := H5.blk
        unfold dkO at hb
        have HB := Lib.hid hb
        have HH5 := Lib.hid H5
        clear hb H5 H4
        go_wp2_with fail
        go_end0
        have hD : DiskAt (((w5.setCell ⟨p, 3, none⟩ (.bool false)).setCell ⟨p, 4, none⟩ (.bool false)).setCell ⟨p, 5, none⟩ (.int .i64 0)) p mb F5 ks5 X R := by
          rw [← HRR.out]
          refine HH5.out.turn ?_ (by simp) (fun k _ hp => (Below.heap_setCell _ _ _ _ hp).trans ((Below.heap_setCell _ _ _ _ hp).trans (Below.heap_setCell _ _ _ _ hp))) rfl rfl (by show (0 : Nat) ≤ _; omega)
          have := setBlk (setBlk (setBlk HB.out 3 (.bool false)) 4 (.bool false)) 5 (.int .i64 0)
          simp only [List.setIfInBounds_toArray, List.set_cons_succ, List.set_cons_zero] at this
          unfold dkO
          exact this
        have hX := HH5.out.xp
        have hN : ∀ j, ¬ X j → j ≠ p := fun j hj e => hj (by rw [e]; exact hX)
        exact ⟨rfl, F5, ks5, hD, S5'.trans ⟨rfl, rfl, rfl, by simp, fun j _ hj => (Below.heap_setCell _ _ _ _ (hN j hj)).trans ((Below.heap_setCell _ _ _ _ (hN j hj)).trans (Below.heap_setCell _ _ _ _ (hN j hj))), fun j hj => .inl hj⟩⟩
      · rw [if_neg hfl] at hR
        have HRR := Lib.hid hR
        have H4 := H2
        have S4 := S2
        clear hR H2 S2 K2 O2
        rename World => W4
        by_cases hf0 : 0 ≤ flip
        · obtain rfl : s = 0 := by omega
          go_wp2_with fail
          refine (harden_any W4 H4).mono ?_
          rintro e w5 ⟨rfl, F5, ks5, H5, S5⟩
          have S5' := S4.trans S5
          have c3 := H5.c3
          have c4 := H5.c4
          have c5 := H5.c5
          have fz := fun j => H5.fz j
          have hb := H5.blk
          unfold dkO at hb
          have HB := Lib.hid hb
          have HH5 := Lib.hid H5
          clear hb H5 H4
          go_wp2_with fail
          go_end0
          have hD : DiskAt (((w5.setCell ⟨p, 3, none⟩ (.bool false)).setCell ⟨p, 4, none⟩ (.bool false)).setCell ⟨p, 5, none⟩ (.int .i64 0)) p mb F5 ks5 X R := by
            rw [← HRR.out]
            refine HH5.out.turn ?_ (by simp) (fun k _ hp => (Below.heap_setCell _ _ _ _ hp).trans ((Below.heap_setCell _ _ _ _ hp).trans (Below.heap_setCell _ _ _ _ hp))) rfl rfl (by show (0 : Nat) ≤ _; omega)
            have := setBlk (setBlk (setBlk HB.out 3 (.bool false)) 4 (.bool false)) 5 (.int .i64 0)
            simp only [List.setIfInBounds_toArray, List.set_cons_succ, List.set_cons_zero] at this
            unfold dkO
            exact this
          have hX := HH5.out.xp
          have hN : ∀ j, ¬ X j → j ≠ p := fun j hj e => hj (by rw [e]; exact hX)
          exact ⟨rfl, F5, ks5, hD, S5'.trans ⟨rfl, rfl, rfl, by simp, fun j _ hj => (Below.heap_setCell _ _ _ _ (hN j hj)).trans ((Below.heap_setCell _ _ _ _ (hN j hj)).trans (Below.heap_setCell _ _ _ _ (hN j hj))), fun j hj => .inl hj⟩⟩
        · go_wp2_with fail
          refine (harden_any W4 H4).mono ?_
          rintro e w5 ⟨rfl, F5, ks5, H5, S5⟩
          have S5' := S4.trans S5
          have c3 := H5.c3
          have c4 := H5.c4
          have c5 := H5.c5
          have fz := fun j => H5.fz j
          have hb := H5.blk
          unfold dkO at hb
          have HB := Lib.hid hb
          have HH5 := Lib.hid H5
          clear hb H5 H4
          go_wp2_with fail
          go_end0
          have hD : DiskAt (((w5.setCell ⟨p, 3, none⟩ (.bool false)).setCell ⟨p, 4, none⟩ (.bool false)).setCell ⟨p, 5, none⟩ (.int .i64 0)) p mb F5 ks5 X R := by
            rw [← HRR.out]
            refine HH5.out.turn ?_ (by simp) (fun k _ hp => (Below.heap_setCell _ _ _ _ hp).trans ((Below.heap_setCell _ _ _ _ hp).trans (Below.heap_setCell _ _ _ _ hp))) rfl rfl (by show (0 : Nat) ≤ _; omega)
            have := setBlk (setBlk (setBlk HB.out 3 (.bool false)) 4 (.bool false)) 5 (.int .i64 0)
            simp only [List.setIfInBounds_toArray, List.set_cons_succ, List.set_cons_zero] at this
            unfold dkO
            exact this
          have hX := HH5.out.xp
          have hN : ∀ j, ¬ X j → j ≠ p := fun j hj e => hj (by rw [e]; exact hX)
          exact ⟨rfl, F5, ks5, hD, S5'.trans ⟨rfl, rfl, rfl, by simp, fun j _ hj => (Below.heap_setCell _ _ _ _ (hN j hj)).trans ((Below.heap_setCell _ _ _ _ (hN j hj)).trans (Below.heap_setCell _ _ _ _ (hN j hj))), fun j hj => .inl hj⟩⟩
end Go.Proofs.Ytpehnggglolnoaa
