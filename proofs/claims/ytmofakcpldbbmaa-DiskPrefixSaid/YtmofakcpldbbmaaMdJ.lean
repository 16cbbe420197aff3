/- The model of a disk: Crash, the walk. -/
import Derived.Test.YtmofakcpldbbmaaMdI
namespace Go.Proofs.Ytmofakcpldbbmaa
open Go.RowKit

theorem flip_ok {E : Dk} (h : DOk E) {f : Int} (hf : 0 ≤ f ∧ f < 64) (n : Nat) : DOk (E.put f (flipB (E.fs f).1 n) (E.fs f).2) := by
  have hl := flipB_len (E.fs f).1 n
  refine put_ok h hf (by rw [hl]; exact h.dur f) ?_
  have hu := E.used_put f (flipB (E.fs f).1 n) (E.fs f).2 hf.1 hf.2
  rw [hl] at hu
  have := h.used
  omega
theorem flip_len {E : Dk} {f : Int} (n : Nat) : ((E.put f (flipB (E.fs f).1 n) (E.fs f).2).fs f).1.length = (E.fs f).1.length := by rw [put_fs0, flipB_len]
theorem flip_dur {E : Dk} (h : DOk E) {f : Int} (n : Nat) : ((E.put f (flipB (E.fs f).1 n) (E.fs f).2).fs f).2 = (E.fs f).2 := by
  rw [put_fs0]
  show (if flipB (E.fs f).1 n = [] then 0 else (E.fs f).2) = _
  split
  · rename_i e
    have := h.dur f
    have hl := flipB_len (E.fs f).1 n
    rw [e, List.length_nil] at hl
    omega
  · rfl
theorem durs_flip {E : Dk} (h : DOk E) {i : Nat} (hi : i < 64) (n : Nat) : durs (E.put (i : Int) (flipB (E.fs (i : Int)).1 n) (E.fs (i : Int)).2) = durs E := by
  refine durs_same E hi _ (fun e => ?_)
  have := h.dur (i : Int)
  have hl := flipB_len (E.fs (i : Int)).1 n
  rw [e, List.length_nil] at hl
  omega
theorem maskI3 (x : UInt8) (r : Nat) (h : r < 8) : bits BinOp.xor IntKind.u8 (x.toNat : Int) (IntKind.u8.wrap (2 ^ min (IntKind.u64.wrap (IntKind.i64.wrap (7 - (r : Int)))).toNat 8)) = ((x ^^^ maskB r).toNat : Int) := by
  rw [← maskI2 x r h]
  congr 1
  have h8 : r = 0 ∨ r = 1 ∨ r = 2 ∨ r = 3 ∨ r = 4 ∨ r = 5 ∨ r = 6 ∨ r = 7 := by omega
  rcases h8 with h | h | h | h | h | h | h | h <;> subst h <;> decide
set_option linter.unusedSimpArgs false in
set_option maxRecDepth 20000 in
set_option maxHeartbeats 4000000 in
theorem mcrash_any (keep : List Int) (kv : Value) (flip : Int) (hf64 : flip ≤ 9223372036854775807) (hk64 : ∀ x ∈ keep, x ≤ 9223372036854775807) (w : World) {q : Nat} {Y : Nat → Prop} {D : Dk} (h : MAt w q Y D)
    (hkv : Rv w kv keep.length (keep.map (Value.int .i64))) (hkX : Off kv Y) :
    Calls Try.prog 47 #[.pointer (some ⟨q, 0, none⟩), kv, .int .i64 flip] w fun e w' => e = .returned (.tuple #[]) ∧ ∃ Y', MAt w' q Y' (D.crash keep flip) ∧ DStep Y Y' w w' := by
  obtain ⟨R, hR⟩ : ∃ R, D.crash keep flip = R := ⟨_, rfl⟩
  rw [hR]
  unfold Dk.crash at hR
  obtain ⟨gB, gF, vs, pl, hm, hp, hok⟩ := h
  obtain ⟨ak, ck, rfl, _, _⟩ := hkv.opened
  have HR := Bx.mk hR
  have HM := Bx.mk hm
  have HK := Bx.mk hok
  clear hR hm hp hok
  go_enter Try.func47, Try.ntmps47
  go_wp2_with fail
  refine (mfiles_any w HM.out).mono ?_
  rintro e w1 ⟨v, rfl, hM⟩
  have hM1 := hM.1
  rw [List.length_map] at hM1
  obtain ⟨a, c, rfl⟩ := own_isSlice hM1
  have H1 := HM.out.later hM.2
  have K1 := hkv.below hM.2
  have B1 := hM.2
  have hfl := files_len D
  have HMEM := Bx.mk (files_mem D)
  have HK64 := Bx.mk hk64
  obtain ⟨fl, hfe⟩ : ∃ l, D.files = l := ⟨_, rfl⟩
  rw [hfe] at hM1 hfl HMEM HR
  have HFE := Bx.mk hfe
  rw [hfe]
  obtain ⟨n, hn⟩ : ∃ n, fl.length = n := ⟨_, rfl⟩
  rw [hn] at hM1 hfl HR ⊢
  have HN := Bx.mk hn
  have hkl2 : keep.length ≤ maxLen := hkv.len
  obtain ⟨kn, hkn⟩ : ∃ kn, keep.length = kn := ⟨_, rfl⟩
  rw [hkn] at K1 hkl2 hkX ⊢
  have HKX := Bx.mk hkX
  have HKN := Bx.mk hkn
  have HOF := Bx.mk (Off.ge hM1 (fun b hb => HM.out.yl b hb) : Off (.slice a n c) Y)
  have HO1 := Bx.mk hM1
  have HK1 := Bx.mk K1
  have HB1 := Bx.mk B1
  have H0 : MoR w1 q gB gF vs (fun i => ((D.cutI keep fl 0).1.fs (i : Int)).1) (durs (D.cutI keep fl 0).1) D.room D.off pl Y := H1
  have CK := Bx.mk (fun i (hi : i ≤ n) => cut_ok HK.out keep fl i (by rw [HN.out]; exact hi) (fun k hk => by have := (HMEM.out k).1 hk; exact ⟨this.1, this.2.1⟩))
  clear hM hn hfe hkX hk64 hkv hkn hM1 K1 B1 H1
  go_wp2_with fail
  go_loopw [7, 8] (fun u v W => ∃ (i s : Nat) (us : List Value) (Z : Nat → Prop), u = .int .i64 (s : Int) ∧ v = .int .i64 (i : Int) ∧ i ≤ n ∧ s ≤ i * 16777216 ∧ Bx ((D.cutI keep fl i).2 = s) ∧ MoR W q gB gF us (fun j => ((D.cutI keep fl i).1.fs (j : Int)).1) (durs (D.cutI keep fl i).1) D.room D.off pl Z ∧ DStep Y Z w1 W) (fun _ v _ => n - (match v with | .int _ k => k.toNat | _ => 0))
  case atStart => exact ⟨0, 0, vs, Y, rfl, rfl, Nat.zero_le _, by simp, ⟨rfl⟩, H0, DStep.refl _ _⟩
  case round =>
    rename World => W
    obtain ⟨i, s, us, Z, rfl, rfl, hin, hs, HS, H2, S2⟩ := hrel
    have O2 := own_step HO1.out S2 HOF.out
    have K2 := rv_step HK1.out S2 HKX.out
    have hokE := CK.out i hin
    by_cases hlt : i < n
    · obtain ⟨k, hk⟩ : ∃ k, fl[i]? = some k := ⟨_, List.getElem?_eq_getElem (by rw [HN.out]; exact hlt)⟩
      have hkm := (HMEM.out k).1 (List.mem_of_getElem? hk)
      obtain ⟨f, rfl⟩ : ∃ f : Nat, k = (f : Int) := ⟨k.toNat, by omega⟩
      have hf : f < 64 := by omega
      have hfi : (f : Int) < 64 := by omega
      have hroomE : (D.cutI keep fl i).1.room = D.room := cutI_room _ _ _ _
      have hokE2 := CK.out (i + 1) hlt
      obtain ⟨E, hE⟩ : ∃ E, (D.cutI keep fl i).1 = E := ⟨_, rfl⟩
      have hnx : D.cutI keep fl (i + 1) = (E.put (f : Int) ((E.fs (f : Int)).1.take ((E.fs (f : Int)).2 + keptN keep i ((E.fs (f : Int)).1.length - (E.fs (f : Int)).2))) (E.fs (f : Int)).2, s + keptN keep i ((E.fs (f : Int)).1.length - (E.fs (f : Int)).2)) := by
        rw [← hE, ← HS.out]
        show Prod.mk _ _ = _
        rw [hk]
        rfl
      rw [hE] at H2 hokE hroomE
      have HOKE := Bx.mk hokE
      clear hE
      obtain ⟨g, off, ha, hc, hgb⟩ := own_at O2 hk
      subst ha
      obtain ⟨a2, c2, hvi, hci, hrow, hblk⟩ := H2.at hf
      have hdur := hokE.dur (f : Int)
      have hl1 := E.le_used (f : Int) (by omega) hfi
      have hl2 := hokE.used
      have hl3 := hokE.room
      have hfm := H2.fat hf (durs_at E hf)
      obtain ⟨bs, hbs⟩ : ∃ b, (E.fs (f : Int)).1 = b := ⟨_, rfl⟩
      obtain ⟨d, hd⟩ : ∃ b, (E.fs (f : Int)).2 = b := ⟨_, rfl⟩
      rw [hbs] at hvi hci hrow hblk hnx hdur hl1
      rw [hd] at hnx hdur hfm
      obtain ⟨L, hL⟩ : ∃ L, bs.length = L := ⟨_, rfl⟩
      rw [hL] at hvi hci hrow hblk hnx hdur hl1
      have hL24 : L ≤ 16777216 := by omega
      have hcap : L ≤ c2 := by
        obtain ⟨_, _, e, h, _⟩ := (Rv.of_own hrow).opened
        cases e
        exact h
      obtain ⟨M, hM⟩ : ∃ M, L - d = M := ⟨_, rfl⟩
      have hMi : (L : Int) - (d : Int) = (M : Int) := by omega
      have hMw : IntKind.i64.wrap ((L : Int) - (d : Int)) = (M : Int) := by rw [IntKind.wrap_i64]; omega
      rw [hM] at hnx
      obtain ⟨t, ht⟩ : ∃ t, keptN keep i M = t := ⟨_, rfl⟩
      have htM : t ≤ M := by rw [← ht]; exact keptN_le _ _ _
      rw [ht] at hnx
      have HNX := Bx.mk hnx
      have HT := Bx.mk ht
      have HBS := Bx.mk hbs
      have HD := Bx.mk hd
      have HL := Bx.mk hL
      have HOK2 := Bx.mk hokE2
      have HRE := Bx.mk hroomE
      clear hnx ht hbs hd hL hM hl1 hl2 hl3 hokE hokE2 hroomE hk
      go_upto_if 32 with fail
      obtain ⟨bq, hbq⟩ : ∃ b, decide (i < kn) = b := ⟨_, rfl⟩
      rw [hbq]
      go_cut [10] from 33 to 54 (fun u wx => u = .int .i64 (t : Int) ∧ Below W.heap.size W wx)
      case first =>
        cases bq with
        | true =>
          have hik : i < kn := of_decide_eq_true hbq
          obtain ⟨x, hx⟩ : ∃ x, keep[i]? = some x := ⟨_, List.getElem?_eq_getElem (by rw [HKN.out]; exact hik)⟩
          obtain ⟨gk, offk, hak, hck⟩ := rv_at K2 hx
          subst hak
          have hckd : W.drew.cell? ⟨gk, offk + i, none⟩ = some (.int .i64 x) := hck
          have hiki : (i : Int) < (kn : Int) := by omega
          have hx64 := HK64.out x (List.mem_of_getElem? hx)
          have htx : t = min x.toNat M := by rw [← HT.out]; unfold keptN; rw [hx]
          have q1 := H2.c1
          have q2 := H2.c2
          go_wp2_with fail
          go_quiet (fail)
          go_wp2_with fail
          go_meet
          refine ⟨?_, belD (Below.refl _ _) nq⟩
          rw [htx]
          congr 1
          omega
        | false =>
          have hik : ¬ i < kn := of_decide_eq_false hbq
          have hiki : ¬ (i : Int) < (kn : Int) := by omega
          have ht0 : t = 0 := by rw [← HT.out]; unfold keptN; rw [List.getElem?_eq_none (by rw [HKN.out]; omega)]
          subst ht0
          go_wp2_with fail
          go_meet
          exact ⟨by simp, Below.refl _ _⟩
      case rest =>
      rename World => w4
      obtain ⟨rfl, B4⟩ := hcut
      have S4 := S2.trans (DStep.ofBelow Z B4)
      have H4 := H2.later B4
      have W4 := own_below hrow B4
      have hci4 := (B4.cell (World.block_lt_of_cell? W _ hci)).trans hci
      have hfm4 := (B4.cell (World.block_lt_of_cell? W _ hfm)).trans hfm
      have hZW := H4.yl
      clear H2 S2 O2 K2 hrow hci hfm B4 hc hbq
      have hsum : IntKind.i64.wrap ((d : Int) + (t : Int)) = (d : Int) + (t : Int) := by rw [IntKind.wrap_i64]; omega
      have hsum2 : ((d : Int) + (t : Int)).toNat = d + t := by omega
      have hdt0 : (0 : Int) ≤ (d : Int) + (t : Int) := by omega
      have hdt : (d : Int) + (t : Int) ≤ (c2 : Int) := by omega
      have hdtL : (d : Int) + (t : Int) ≤ (L : Int) := by omega
      have hcut := own_cut W4 (d + t) (by omega)
      rw [← List.map_take] at hcut
      have HCUT := Bx.mk hcut
      have HW := Bx.mk (And.intro hsum2 hsum)
      clear hsum hsum2 hcut
      go_upto_region 10 with fail
      have s0 : w4.drew.cell? ⟨q, 1, none⟩ = some (.slice (some ⟨gB, 0, none⟩) 64 64) ∧ w4.drew.cell? ⟨q, 2, none⟩ = some (.slice (some ⟨gF, 0, none⟩) 64 64) ∧ w4.drew.cell? ⟨gF, f, none⟩ = some (.int .i64 (d : Int)) := ⟨H4.c1, H4.c2, hfm4⟩
      have hcid : w4.drew.cell? ⟨gB, f, none⟩ = some (.slice a2 L c2) := hci4
      have hsum := HW.out.2
      refine wp_region_held_drew (S := fun W => W.cell? ⟨q, 1, none⟩ = some (.slice (some ⟨gB, 0, none⟩) 64 64) ∧ W.cell? ⟨q, 2, none⟩ = some (.slice (some ⟨gF, 0, none⟩) 64 64) ∧ W.cell? ⟨gF, f, none⟩ = some (.int .i64 (d : Int))) (by kernel_rfl) s0 (fun _ => ?_)
      refine wpAnyH_do 0 55 rfl rfl (by kernel_rfl) (by kernel_rfl) (by kernel_rfl) (fun _ _ _ _ _ h => h) (by kernel_rfl) (fun W hS => by (obtain ⟨s1, s2, s3⟩ := hS); go_simp; try with_reducible rfl) s0 ?_
      simp only [List.setIfInBounds_toArray, List.set_cons_succ, List.set_cons_zero]
      refine wpAnyH_do 1 56 rfl rfl (by kernel_rfl) (by kernel_rfl) (by kernel_rfl) (fun _ _ _ _ _ h => h) (by kernel_rfl) (fun W hS => by (obtain ⟨s1, s2, s3⟩ := hS); go_simp; try with_reducible rfl) s0 ?_
      simp only [List.setIfInBounds_toArray, List.set_cons_succ, List.set_cons_zero]
      refine wpAnyH_do 2 57 rfl rfl (by kernel_rfl) (by kernel_rfl) (by kernel_rfl) (fun _ _ _ _ _ h => h) (by kernel_rfl) (fun W hS => by (obtain ⟨s1, s2, s3⟩ := hS); go_simp; try with_reducible rfl) s0 ?_
      simp only [List.setIfInBounds_toArray, List.set_cons_succ, List.set_cons_zero]
      refine wpAnyH_do 3 58 rfl rfl (by kernel_rfl) (by kernel_rfl) (by kernel_rfl) (fun _ _ _ _ _ h => h) (by kernel_rfl) (fun W hS => by (obtain ⟨s1, s2, s3⟩ := hS); go_simp; try with_reducible rfl) s0 ?_
      simp only [List.setIfInBounds_toArray, List.set_cons_succ, List.set_cons_zero]
      refine wpAnyH_do 4 59 rfl rfl (by kernel_rfl) (by kernel_rfl) (by kernel_rfl) (fun _ _ _ _ _ h => h) (by kernel_rfl) (fun W hS => by (obtain ⟨s1, s2, s3⟩ := hS); go_simp; try with_reducible rfl) s0 ?_
      simp only [List.setIfInBounds_toArray, List.set_cons_succ, List.set_cons_zero]
      refine wpAnyH_do 5 60 rfl rfl (by kernel_rfl) (by kernel_rfl) (by kernel_rfl) (fun _ _ _ _ _ h => h) (by kernel_rfl) (fun W hS => by (obtain ⟨s1, s2, s3⟩ := hS); go_simp; try with_reducible rfl) s0 ?_
      simp only [List.setIfInBounds_toArray, List.set_cons_succ, List.set_cons_zero]
      refine wpAnyH_do 6 61 rfl rfl (by kernel_rfl) (by kernel_rfl) (by kernel_rfl) (fun _ _ _ _ _ h => h) (by kernel_rfl) (fun W hS => by (obtain ⟨s1, s2, s3⟩ := hS); go_simp; try with_reducible rfl) s0 ?_
      simp only [List.setIfInBounds_toArray, List.set_cons_succ, List.set_cons_zero]
      refine wpAnyH_do 7 62 rfl rfl (by kernel_rfl) (by kernel_rfl) (by kernel_rfl) (fun _ _ _ _ _ h => h) (by kernel_rfl) (fun W hS => by (obtain ⟨s1, s2, s3⟩ := hS); go_simp; try with_reducible rfl) s0 ?_
      simp only [List.setIfInBounds_toArray, List.set_cons_succ, List.set_cons_zero]
      refine wpAnyH_do 8 63 rfl rfl (by kernel_rfl) (by kernel_rfl) (by kernel_rfl) (fun _ _ _ _ _ h => h) (by kernel_rfl) (fun W hS => by (obtain ⟨s1, s2, s3⟩ := hS); go_simp; try with_reducible rfl) s0 ?_
      simp only [List.setIfInBounds_toArray, List.set_cons_succ, List.set_cons_zero]
      refine wpAnyH_do 9 64 rfl rfl (by kernel_rfl) (by kernel_rfl) (by kernel_rfl) (fun _ _ _ _ _ h => h) (by kernel_rfl) (fun W hS => by (obtain ⟨s1, s2, s3⟩ := hS); go_simp; try with_reducible rfl) s0 ?_
      simp only [List.setIfInBounds_toArray, List.set_cons_succ, List.set_cons_zero]
      refine wpAnyH_do 10 65 rfl rfl (by kernel_rfl) (by kernel_rfl) (by kernel_rfl) (fun _ _ _ _ _ h => h) (by kernel_rfl) (fun W hS => by (obtain ⟨s1, s2, s3⟩ := hS); go_simp; try with_reducible rfl) s0 ?_
      simp only [List.setIfInBounds_toArray, List.set_cons_succ, List.set_cons_zero]
      refine wpAnyH_do 11 66 rfl rfl (by kernel_rfl) (by kernel_rfl) (by kernel_rfl) (fun _ _ _ _ _ h => h) (by kernel_rfl) (fun W hS => by (obtain ⟨s1, s2, s3⟩ := hS); go_simp; try with_reducible rfl) s0 ?_
      simp only [List.setIfInBounds_toArray, List.set_cons_succ, List.set_cons_zero]
      refine wpAnyH_do 13 68 rfl rfl (by kernel_rfl) (by kernel_rfl) (by kernel_rfl) (fun _ _ _ _ _ h => h) (by kernel_rfl) (fun W hS => by (obtain ⟨s1, s2, s3⟩ := hS); go_simp; try with_reducible rfl) s0 ?_
      simp only [List.setIfInBounds_toArray, List.set_cons_succ, List.set_cons_zero]
      refine wpAnyH_do 14 69 rfl rfl (by kernel_rfl) (by kernel_rfl) (by kernel_rfl) (fun _ _ _ _ _ h => h) (by kernel_rfl) (fun W hS => by (obtain ⟨s1, s2, s3⟩ := hS); go_simp; try with_reducible rfl) s0 ?_
      simp only [List.setIfInBounds_toArray, List.set_cons_succ, List.set_cons_zero]
      refine wpAnyH_do 15 70 rfl rfl (by kernel_rfl) (by kernel_rfl) (by kernel_rfl) (fun _ _ _ _ _ h => h) (by kernel_rfl) (fun W hS => by (obtain ⟨s1, s2, s3⟩ := hS); go_simp; try with_reducible rfl) s0 ?_
      simp only [List.setIfInBounds_toArray, List.set_cons_succ, List.set_cons_zero]
      refine wpAnyH_do 16 71 rfl rfl (by kernel_rfl) (by kernel_rfl) (by kernel_rfl) (fun _ _ _ _ _ h => h) (by kernel_rfl) (fun W hS => by (obtain ⟨s1, s2, s3⟩ := hS); go_simp; try with_reducible rfl) s0 ?_
      simp only [List.setIfInBounds_toArray, List.set_cons_succ, List.set_cons_zero]
      refine wpAnyH_do 17 72 rfl rfl (by kernel_rfl) (by kernel_rfl) (by kernel_rfl) (fun _ _ _ _ _ h => h) (by kernel_rfl) (fun W hS => by (obtain ⟨s1, s2, s3⟩ := hS); go_simp; try with_reducible rfl) s0 ?_
      simp only [List.setIfInBounds_toArray, List.set_cons_succ, List.set_cons_zero]
      refine wpAnyH_do 18 73 rfl rfl (by kernel_rfl) (by kernel_rfl) (by kernel_rfl) (fun _ _ _ _ _ h => h) (by kernel_rfl) (fun W hS => by (obtain ⟨s1, s2, s3⟩ := hS); go_simp; try with_reducible rfl) s0 ?_
      simp only [List.setIfInBounds_toArray, List.set_cons_succ, List.set_cons_zero]
      refine wpAnyH_do 19 74 rfl rfl (by kernel_rfl) (by kernel_rfl) (by kernel_rfl) (fun _ _ _ _ _ h => h) (by kernel_rfl) (fun W hS => by (obtain ⟨s1, s2, s3⟩ := hS); go_simp; try with_reducible rfl) s0 ?_
      simp only [List.setIfInBounds_toArray, List.set_cons_succ, List.set_cons_zero]
      refine wpAnyH_do 20 75 rfl rfl (by kernel_rfl) (by kernel_rfl) (by kernel_rfl) (fun _ _ _ _ _ h => h) (by kernel_rfl) (fun W hS => by (obtain ⟨s1, s2, s3⟩ := hS); go_simp; try with_reducible rfl) s0 ?_
      simp only [List.setIfInBounds_toArray, List.set_cons_succ, List.set_cons_zero]
      refine wpAnyH_do 21 76 rfl rfl (by kernel_rfl) (by kernel_rfl) (by kernel_rfl) (fun _ _ _ _ _ h => h) (by kernel_rfl) (fun W hS => by (obtain ⟨s1, s2, s3⟩ := hS); go_simp; try with_reducible rfl) s0 ?_
      simp only [List.setIfInBounds_toArray, List.set_cons_succ, List.set_cons_zero]
      refine wpAnyH_one 12 rfl (by kernel_rfl) (by kernel_rfl) (fun K hK => ?_)
      go_simp
      refine hK _ _ s0 ?_
      clear hK
      try simp only [Act.put, List.setIfInBounds_toArray, List.set_cons_zero, List.set_cons_succ]
      have hsum2 := HW.out.1
      refine wpAnyH_do 22 77 rfl rfl (by kernel_rfl) (by kernel_rfl) (by kernel_rfl) (fun _ _ _ _ _ h => h) (by kernel_rfl) (fun W hS => by (obtain ⟨s1, s2, s3⟩ := hS); go_simp; try with_reducible rfl) s0 ?_
      simp only [List.setIfInBounds_toArray, List.set_cons_succ, List.set_cons_zero]
      refine wpAnyH_one 23 rfl (by kernel_rfl) (by kernel_rfl) (fun K hK => ?_)
      obtain ⟨z, hz⟩ : ∃ z, bs.take (d + t) = z := ⟨_, rfl⟩
      have hzl : z.length = d + t := by rw [← hz, List.length_take, HL.out]; omega
      have hcut := HCUT.out
      rw [hz] at hcut
      have HZ := Bx.mk hz
      have HZL := Bx.mk hzl
      refine opApp _ _ rfl Try.elB w4.heap.size (.slice none 0 0) 0 [] rfl (World.ownsRow_nil _ _ _ _) (.slice a2 (d + t) c2) (d + t) _ rfl ((Rv.of_own hcut).below (Below.refl _ _).drew) (by rw [List.length_map, HZL.out]; simp) (ones_B _) (by omega) (Nat.le_refl _) ?_
      intro v6 w6 O6 g6 s6
      have B6 : Below w4.heap.size w4 w6 := (Below.refl w4.heap.size w4).drew.grown g6 (Nat.le_refl _) (fun g hg => by cases hg)
      have H6 := H4.later B6
      have s0 : w6.cell? ⟨q, 1, none⟩ = some (.slice (some ⟨gB, 0, none⟩) 64 64) ∧ w6.cell? ⟨q, 2, none⟩ = some (.slice (some ⟨gF, 0, none⟩) 64 64) ∧ w6.cell? ⟨gF, f, none⟩ = some (.int .i64 (d : Int)) := ⟨H6.c1, H6.c2, (B6.cell (World.block_lt_of_cell? w4 _ hfm4)).trans hfm4⟩
      refine hK _ _ s0 ?_
      clear hK hz hzl hcut
      rw [List.nil_append, Nat.zero_add] at O6
      obtain ⟨zl, hzl⟩ : ∃ n, d + t = n := ⟨_, rfl⟩
      rw [hzl] at O6
      have HZS := Bx.mk hzl
      obtain ⟨a6, c6, rfl⟩ := own_isSlice O6
      try simp only [Act.put, List.setIfInBounds_toArray, List.set_cons_zero, List.set_cons_succ]
      clear hzl
      refine wpAnyH_do 24 79 rfl rfl (by kernel_rfl) (by kernel_rfl) (by kernel_rfl) (fun _ _ _ _ _ h => h) (by kernel_rfl) (fun W hS => by (obtain ⟨s1, s2, s3⟩ := hS); go_simp; try with_reducible rfl) s0 ?_
      simp only [List.setIfInBounds_toArray, List.set_cons_succ, List.set_cons_zero]
      have hfz6 := H6.tab f
      have hcn6 := (B6.cell (World.block_lt_of_cell? w4 _ hci4)).trans hci4
      have hqb := H6.qb
      have hbf := H6.bf
      refine wpAnyH_one 25 rfl (by kernel_rfl) (by kernel_rfl) (fun K hK => ?_)
      go_simp
      have ht7 : ∀ y j, y ≠ gB → (w6.setCell ⟨gB, f, none⟩ (.slice a6 zl c6)).cell? ⟨y, j, none⟩ = w6.cell? ⟨y, j, none⟩ := fun y j hy => World.cell?_of_block (Below.heap_setCell _ _ _ _ hy)
      refine hK _ _ ⟨(ht7 q 1 hqb).trans s0.1, (ht7 q 2 hqb).trans s0.2.1, (ht7 gF f (fun e => hbf e.symm)).trans s0.2.2⟩ ?_
      clear hK
      have hnx := HNX.out
      have HS7 : Bx ((D.cutI keep fl (i + 1)).2 = s + t) := ⟨by rw [hnx]⟩
      have hE7 : (D.cutI keep fl (i + 1)).1 = E.put (f : Int) z (E.fs (f : Int)).2 := by rw [hnx, HD.out, HZ.out]
      have N7 := H6.put hf (v := .slice a6 zl c6) (b := z) (by rw [HZL.out, HZS.out]; exact own_base O6 (Nat.zero_le _)) (fun y hy => by
        have h1 := (O6.lt y hy).1
        refine ⟨fun e => by have := hZW q H4.yq; omega, fun e => by have := hZW gB H4.yb; omega, fun e => by have := hZW gF H4.yf; omega, fun j u _ hu e => by have := ((H4.row j u hu).1.lt y e).2; omega⟩) (fun e => by
          have h1 := HZL.out
          rw [e] at h1
          have h2 : d + t = 0 := h1.symm
          rw [HD.out]
          omega)
      rw [← hE7] at N7
      have hblk6 : ∀ y, (Value.slice a6 zl c6).ownBlock = some y → w4.heap.size ≤ y := fun y hy => (O6.lt y hy).1
      have hYB : Z gB := H4.yb
      have S7 : DStep Y (fun x => Z x ∨ (Value.slice a6 zl c6).ownBlock = some x) w1 (w6.setCell ⟨gB, f, none⟩ (.slice a6 zl c6)) := S4.trans
        ⟨B6.os, B6.tape, B6.output, by rw [World.size_setCell]; exact B6.size, fun y hy hY => (Below.heap_setCell _ _ _ _ (fun e => hY (by rw [e]; exact hYB))).trans (B6.block y hy), fun y hy => hy.elim .inl (fun hy => .inr (hblk6 y hy))⟩
      generalize w6.setCell ⟨gB, f, none⟩ (.slice a6 zl c6) = w7 at N7 S7 ⊢
      try simp only [Act.put, List.setIfInBounds_toArray, List.set_cons_zero, List.set_cons_succ]
      refine wpAnyH_done (by kernel_rfl) ?_ _
      have HN7 := Bx.mk N7
      have hst : (s : Int) + (t : Int) ≤ 9223372036854775807 := by omega
      have hst2 : s + t ≤ (i + 1) * 16777216 := by omega
      clear H6 H4 O6 g6 s6 B6 ht7 s0 hcn6 hfz6 hfm4 hci4 hZW hE7 hnx N7 hqb hbf W4 hblk6 hYB S4 hsum hsum2 hcid
      go_wp2_with fail
      go_roundw
      case rel => exact ⟨i + 1, s + t, _, _, by simp, by simp, hlt, hst2, HS7, HN7.out, S7⟩
      case measure => show n - ((i : Int) + 1).toNat < n - ((i : Int)).toNat; omega
    · obtain rfl : n = i := by omega
      clear H0 O2 K2
      have hroomE : (D.cutI keep fl n).1.room = D.room := cutI_room _ _ _ _
      have hcf := cut_files D keep fl n
      rw [HFE.out] at hcf
      obtain ⟨E0, hE0⟩ : ∃ E, (D.cutI keep fl n).1 = E := ⟨_, rfl⟩
      have hR := HR.out
      rw [hE0, HS.out] at hR
      rw [hE0] at H2 hokE hroomE hcf
      have hinv : ∀ m, E0.invertL E0.files m = E0.invertL fl m := fun m => by
        rw [hcf]
        refine invertL_skip E0 _ fl m (fun k _ hk => ?_)
        have h1 : (E0.fs k).1 = [] := by simpa using hk
        have h2 := hokE.dur k
        rw [h1] at h2 ⊢
        simp only [List.length_nil] at h2 ⊢
        omega
      rw [hinv] at hR
      obtain ⟨R2, hR2⟩ : ∃ R2, (if 0 ≤ flip ∧ 0 < s then E0.invertL fl (flip.toNat % (8 * s)) else E0) = R2 := ⟨_, rfl⟩
      rw [hR2] at hR
      have hs8 : 8 * s ≤ 8 * (64 * 16777216) := by omega
      have HR := Bx.mk hR
      have HR2 := Bx.mk hR2
      have HOK := Bx.mk hokE
      have HRM := Bx.mk hroomE
      have HH2 := Bx.mk H2
      clear hR hR2 hokE hroomE hcf hinv hE0 CK H2
      go_upto_region 13 with fail
      go_cut [88] from 83 to 88 (fun u wx => u = .bool (decide (0 ≤ flip ∧ 0 < s)) ∧ W = wx)
      case first =>
        by_cases h0 : 0 ≤ flip
        · by_cases h1 : 0 < s
          · have h1i : (0 : Int) < (s : Int) := by omega
            go_wp2_with fail
            go_meet
            exact ⟨by rw [decide_eq_true (And.intro h0 h1)], rfl⟩
          · have h1i : ¬ (0 : Int) < (s : Int) := by omega
            go_wp2_with fail
            go_meet
            exact ⟨by rw [decide_eq_false (fun h : 0 ≤ flip ∧ 0 < s => h1 h.2)], rfl⟩
        · go_wp2_with fail
          go_meet
          exact ⟨by rw [decide_eq_false (fun h : 0 ≤ flip ∧ 0 < s => by omega)], rfl⟩
      case rest =>
      obtain ⟨rfl, rfl⟩ := hcut
      go_upto_if 88 with fail
      obtain ⟨bq, hbq⟩ : ∃ b, decide (0 ≤ flip ∧ 0 < s) = b := ⟨_, rfl⟩
      rw [hbq]
      go_cut [12] from 89 to 92 (fun u wx => ∃ t : Int, u = .int .i64 t ∧ Bx (Ph R2 E0 fl t) ∧ -8 ≤ t ∧ t ≤ 8589934592 ∧ W = wx)
      case first =>
        cases bq with
        | true =>
          have hfl2 := of_decide_eq_true hbq
          obtain ⟨fn, rfl⟩ : ∃ fn : Nat, flip = (fn : Int) := ⟨flip.toNat, by omega⟩
          obtain ⟨b, hb⟩ : ∃ b, fn % (8 * s) = b := ⟨_, rfl⟩
          have hbs : b < 8 * s := by rw [← hb]; exact Nat.mod_lt _ (by omega)
          have hmod : ((fn : Int)).tmod (8 * (s : Int)) = (b : Int) := by
            rw [Int.tmod_eq_emod_of_nonneg (by omega), ← hb, Int.natCast_emod]
            rfl
          have hb0 : ¬ (8 * (s : Int)) = 0 := by omega
          have hph : Ph R2 E0 fl (b : Int) := .inl ⟨by omega, by
            have := HR2.out
            rw [if_pos hfl2, Int.toNat_natCast, hb] at this
            rw [Int.toNat_natCast]
            exact this⟩
          have HPH := Bx.mk hph
          clear hph hb hfl2
          go_wp2_with fail
          go_meet
          exact ⟨(b : Int), rfl, HPH, by omega, by omega, rfl⟩
        | false =>
          have hfl2 := of_decide_eq_false hbq
          have hph : Ph R2 E0 fl (-1) := .inr ⟨by omega, by
            have := HR2.out
            rw [if_neg hfl2] at this
            exact this⟩
          have HPH := Bx.mk hph
          clear hph hfl2
          go_wp2_with fail
          go_meet
          exact ⟨-1, rfl, HPH, by omega, by omega, rfl⟩
      case rest =>
      obtain ⟨t, rfl, HPH, ht0, ht1, rfl⟩ := hcut
      clear hbq
      go_wp2_with fail
      go_loopw [12, 13] (fun u v W => ∃ (i : Nat) (t : Int) (E : Dk) (us : List Value) (Z : Nat → Prop), u = .int .i64 t ∧ v = .int .i64 (i : Int) ∧ i ≤ n ∧ -8 - 134217728 * (i : Int) ≤ t ∧ t ≤ 8589934592 ∧ Bx (Ph R2 E (fl.drop i) t) ∧ Bx (DOk E) ∧ E.room = D.room ∧ MoR W q gB gF us (fun j => (E.fs (j : Int)).1) (durs E) D.room D.off pl Z ∧ DStep Y Z w1 W) (fun _ v _ => n - (match v with | .int _ k => k.toNat | _ => 0))
      case atStart => exact ⟨0, t, E0, us, Z, rfl, rfl, Nat.zero_le _, by omega, ht1, HPH, HOK, HRM.out, HH2.out, S2⟩
      case round =>
        clear HPH HR2 HOK HRM HH2 S2 hs hs8 HS ht0 ht1
        rename World => W
        obtain ⟨i, t, E, us, Z, rfl, rfl, hin, ht0, ht1, HPH, HOK, hrmE, H2, S2⟩ := hrel
        have O2 := own_step HO1.out S2 HOF.out
        by_cases hlt : i < n
        · obtain ⟨k, hk⟩ : ∃ k, fl[i]? = some k := ⟨_, List.getElem?_eq_getElem (by rw [HN.out]; exact hlt)⟩
          have hkm := (HMEM.out k).1 (List.mem_of_getElem? hk)
          obtain ⟨f, rfl⟩ : ∃ f : Nat, k = (f : Int) := ⟨k.toNat, by omega⟩
          have hf : f < 64 := by omega
          have hfi : (f : Int) < 64 := by omega
          have hdrop : fl.drop i = (f : Int) :: fl.drop (i + 1) := by
            rw [List.drop_eq_getElem_cons (by rw [HN.out]; exact hlt)]
            congr 1
            have := List.getElem?_eq_getElem (l := fl) (i := i) (by rw [HN.out]; exact hlt)
            rw [this] at hk
            exact Option.some.inj hk
          have hph := HPH.out
          rw [hdrop] at hph
          obtain ⟨g, off, ha, hc, hgb⟩ := own_at O2 hk
          subst ha
          have hdur := HOK.out.dur (f : Int)
          have hl1 := E.le_used (f : Int) (by omega) hfi
          have hl2 := HOK.out.used
          have hl3 := HOK.out.room
          have hfm := H2.fat hf (durs_at E hf)
          obtain ⟨d, hd⟩ : ∃ b, (E.fs (f : Int)).2 = b := ⟨_, rfl⟩
          obtain ⟨L, hL⟩ : ∃ L, (E.fs (f : Int)).1.length = L := ⟨_, rfl⟩
          rw [hd] at hdur hfm
          rw [hL] at hdur hl1
          have hL24 : L ≤ 16777216 := by omega
          have HD := Bx.mk hd
          have HL := Bx.mk hL
          have HP2 := Bx.mk (hph.start d)
          have c2 := H2.c2
          have HRE := Bx.mk hrmE
          have HC := Bx.mk hc
          clear hl1 hl2 hl3 hph hdrop hk hd hL HPH hrmE
          go_wp2_with fail
          go_loopw [12, 15] (fun u v W2 => ∃ (kk : Nat) (t2 : Int) (E : Dk) (us : List Value), u = .int .i64 t2 ∧ v = .int .i64 (kk : Int) ∧ d ≤ kk ∧ kk ≤ L ∧ -8 - 134217728 * (i : Int) - 8 * ((kk - d : Nat) : Int) ≤ t2 ∧ t2 ≤ 8589934592 ∧ Bx (Ph2 R2 E (fl.drop (i + 1)) (f : Int) d kk t2) ∧ Bx (DOk E) ∧ Bx (E.room = D.room) ∧ Bx ((E.fs (f : Int)).1.length = L) ∧ Bx ((E.fs (f : Int)).2 = d) ∧ MoR W2 q gB gF us (fun j => (E.fs (j : Int)).1) (durs E) D.room D.off pl Z ∧ DStep Y Z w1 W2) (fun _ v _ => L - (match v with | .int _ k => k.toNat | _ => 0))
          case atStart => exact ⟨d, t, E, us, rfl, rfl, Nat.le_refl _, hdur, by omega, ht1, HP2, HOK, HRE, HL, HD, H2, S2⟩
          case round =>
            clear HP2 HOK HRE HL HD H2 S2 hfm c2 hc O2 ht0 ht1
            rename World => W2
            obtain ⟨kk, t2, E2, us2, rfl, rfl, hk0, hkL, ht0, ht1, HP2, HOK, HRE, HL, HD, H2, S2⟩ := hrel
            obtain ⟨a2, c2, hvi, hci, hrow, hblk⟩ := H2.at hf
            have q1 := H2.c1
            rw [HL.out] at hvi hci hrow hblk
            by_cases hklt : kk < L
            · have hklti : (kk : Int) < (L : Int) := by omega
              by_cases hbit : 0 ≤ t2 ∧ t2 < 8
              · obtain ⟨r, rfl⟩ : ∃ r : Nat, t2 = (r : Int) := ⟨t2.toNat, by omega⟩
                have hr8 : r < 8 := by omega
                have hr8i : (r : Int) < 8 := by omega
                have hfl2 := HP2.out.flip hr8 hk0 (by rw [HL.out]; exact hklt) HD.out
                obtain ⟨m, hm⟩ : ∃ m, L = m + 1 := ⟨L - 1, by omega⟩
                have hrow' := hrow
                rw [hm] at hrow'
                obtain ⟨g2, cap2, e, _, hcap, hcell, hfrz⟩ := own_open hrow'
                rw [← hm] at e hcap hcell
                injection e with e1 e2 e3
                subst e1 e3
                obtain ⟨x, hx⟩ : ∃ x, (E2.fs (f : Int)).1 = x := ⟨_, rfl⟩
                obtain ⟨z, hz⟩ : ∃ z, x[kk]? = some z := ⟨_, List.getElem?_eq_getElem (by rw [← hx, HL.out]; exact hklt)⟩
                rw [hx] at hcell hrow hfl2
                have hcx := hcell kk hklt
                rw [List.getElem?_map, hz] at hcx
                simp only [Option.map_some, vB] at hcx
                have hX8 := maskI3 z r hr8
                obtain ⟨y, hy⟩ : ∃ y, z ^^^ maskB r = y := ⟨_, rfl⟩
                rw [hy] at hX8
                have hst := (hrow.stored kk (vB y)).1
                have hfs := flipB_set x (8 * kk + r) z (by rw [show (8 * kk + r) / 8 = kk by omega]; exact hz)
                rw [show (8 * kk + r) / 8 = kk by omega, show (8 * kk + r) % 8 = r by omega, hy] at hfs
                rw [← List.map_set, ← hfs] at hst
                have hfz := hfrz kk
                have hkc : (kk : Int) < (c2 : Int) := by omega
                have hgZ := (hblk g2 rfl).1
                have q1d : W2.drew.cell? ⟨q, 1, none⟩ = some (.slice (some ⟨gB, 0, none⟩) 64 64) := q1
                have hcid : W2.drew.cell? ⟨gB, f, none⟩ = some (.slice (some ⟨g2, 0, none⟩) L c2) := hci
                have hcxd : W2.drew.cell? ⟨g2, kk, none⟩ = some (.int .u8 (z.toNat : Int)) := hcx
                have hfzd : W2.drew.frozen? ⟨g2, kk, none⟩ = false := hfz
                have hbl : (flipB x (8 * kk + r)).length = L := by rw [flipB_len, ← hx, HL.out]
                have N3 := H2.rerow (w' := (W2.setCell ⟨g2, kk, none⟩ (vB y)).drew) hvi hbl hst (Nat.le_of_eq (World.size_setCell _ _ _).symm) (fun j _ hj => Below.heap_setCell _ _ _ _ hj)
                have hEq : (fun j => if j = f then flipB x (8 * kk + r) else (E2.fs (j : Int)).1) = fun (j : Nat) => (R2.fs (j : Int)).1 := funext fun j => by
                  rw [← hfl2]
                  by_cases e : j = f
                  · subst e; rw [put_fs0, if_pos rfl]
                  · rw [put_fs1 E2 _ _ (show (j : Int) ≠ (f : Int) by omega), if_neg e]
                have hdu : durs E2 = durs R2 := by
                  rw [← hfl2, ← HD.out, ← hx, durs_flip HOK.out hf]
                rw [hEq, hdu] at N3
                have HOR : Bx (DOk R2) := ⟨by rw [← hfl2, ← HD.out, ← hx]; exact flip_ok HOK.out ⟨by omega, hfi⟩ _⟩
                have HRR : Bx (R2.room = D.room) := ⟨by rw [← hfl2]; exact HRE.out⟩
                have HLR : Bx ((R2.fs (f : Int)).1.length = L) := ⟨by rw [← hfl2, put_fs0]; exact hbl⟩
                have HDR : Bx ((R2.fs (f : Int)).2 = d) := ⟨by rw [← hfl2]; have := flip_dur HOK.out (f := (f : Int)) (8 * kk + r); rw [HD.out, hx] at this; exact this⟩
                have S3 : DStep Y Z w1 (W2.setCell ⟨g2, kk, none⟩ (vB y)).drew := S2.trans ⟨rfl, rfl, rfl, Nat.le_of_eq (World.size_setCell _ _ _).symm, fun j _ hj => Below.heap_setCell _ _ _ _ (fun e => hj (by rw [e]; exact hgZ)), fun j hj => .inl hj⟩
                have HN3 := Bx.mk N3
                have HS3 := Bx.mk S3
                have HX8 := Bx.mk hX8
                unfold vB at HN3 HS3
                clear hfl2 hm hrow hrow' hcell hfrz hst hfs hX8 hy N3 S3 hEq hdu hbl hx hz H2 S2 HP2 hgZ hblk hvi HL HD HOK HRE e2 hcap
                go_upto_region 23 with fail
                go_still_tail 24, (by kernel_rfl)
                change wpList _ _ _ _ _ W2.drew
                rw [HX8.out]
                go_wp2_with fail
                go_roundw
                case rel => exact ⟨kk + 1, (r : Int) - 8, R2, us2, rfl, by simp, by omega, hklt, by omega, by omega, ⟨.inr ⟨by omega, rfl⟩⟩, HOR, HRR, HLR, HDR, HN3.out, HS3.out⟩
                case measure => show L - ((kk : Int) + 1).toNat < L - ((kk : Int)).toNat; omega
              · have HP3 : Bx (Ph2 R2 E2 (fl.drop (i + 1)) (f : Int) d (kk + 1) (t2 - 8)) := ⟨HP2.out.next hk0 hbit⟩
                have HH2 := Bx.mk H2
                clear hrow hblk hvi H2 HP2
                by_cases h0 : 0 ≤ t2
                · have h8 : ¬ t2 < 8 := by omega
                  clear hbit
                  go_wp2_with fail
                  go_roundw
                  case rel => exact ⟨kk + 1, t2 - 8, E2, us2, rfl, by simp, by omega, hklt, by omega, by omega, HP3, HOK, HRE, HL, HD, HH2.out, S2⟩
                  case measure => show L - ((kk : Int) + 1).toNat < L - ((kk : Int)).toNat; omega
                · clear hbit
                  go_wp2_with fail
                  go_roundw
                  case rel => exact ⟨kk + 1, t2 - 8, E2, us2, rfl, by simp, by omega, hklt, by omega, by omega, HP3, HOK, HRE, HL, HD, HH2.out, S2⟩
                  case measure => show L - ((kk : Int) + 1).toNat < L - ((kk : Int)).toNat; omega
            · obtain rfl : L = kk := by omega
              have HP3 : Bx (Ph R2 E2 (fl.drop (i + 1)) t2) := ⟨HP2.out.end' HL.out HD.out⟩
              have HH2 := Bx.mk H2
              have HRE2 := HRE.out
              have hti : -8 - 134217728 * ((i : Int) + 1) ≤ t2 := by omega
              clear hrow hblk hvi H2 HP2
              have HAR : -8 - 134217728 * (((i + 1 : Nat)) : Int) ≤ t2 := by omega
              go_wp2_with fail
              refine ⟨⟨i + 1, t2, E2, us2, Z, rfl, by simp, hlt, HAR, ht1, HP3, HOK, HRE2, HH2.out, S2⟩, ?_⟩
              show n - ((i : Int) + 1).toNat < n - ((i : Int)).toNat
              omega
        · obtain rfl : n = i := by omega
          have ht : fl.drop n = [] := List.drop_eq_nil_of_le (by rw [HN.out]; exact Nat.le_refl _)
          have hE : E = R2 := by
            rcases HPH.out with ⟨_, h⟩ | ⟨_, h⟩
            · rw [ht, Dk.invertL] at h; exact h
            · exact h
          rw [hE] at HOK hrmE H2
          clear hE HPH ht0 ht1 ht
          have HH2 := Bx.mk (show MoR W q gB gF us (fun j => (R2.fs (j : Int)).1) (hardF R2 0) D.room D.off pl Z from H2)
          clear H2 O2
          go_wp2_with fail
          go_loopw [16] (fun u W2 => ∃ (j : Nat), u = .int .i64 (j : Int) ∧ j ≤ 64 ∧ MoR W2 q gB gF us (fun j => (R2.fs (j : Int)).1) (hardF R2 j) D.room D.off pl Z ∧ DStep Y Z w1 W2) (fun u _ => 64 - (match u with | .int _ k => k.toNat | _ => 0))
          case atStart => exact ⟨0, rfl, Nat.zero_le _, HH2.out, S2⟩
          case round =>
            clear HH2 S2
            rename World => W2
            obtain ⟨i, rfl, hi, H3, S3⟩ := hrel
            by_cases hlt : i < 64
            · have hlti : (i : Int) < 64 := by omega
              obtain ⟨a, c, hvi, hci, hrow, hblk⟩ := H3.at hlt
              have hfi := H3.fat hlt (hardF_at R2 hlt)
              have hset := hardF_set R2 hlt
              have HFS := Bx.mk (H3.firm i ((R2.fs (i : Int)).1.length : Int))
              obtain ⟨L, hL⟩ : ∃ L, (R2.fs (i : Int)).1.length = L := ⟨_, rfl⟩
              rw [hL] at hci hset HFS
              rw [if_neg (Nat.lt_irrefl _)] at hfi
              rw [hset] at HFS
              obtain ⟨d0, hd0⟩ : ∃ d, ((R2.fs (i : Int)).2 : Int) = d := ⟨_, rfl⟩
              rw [hd0] at hfi
              have c1d : W2.drew.cell? ⟨q, 1, none⟩ = some (.slice (some ⟨gB, 0, none⟩) 64 64) := H3.c1
              have c2d : W2.drew.cell? ⟨q, 2, none⟩ = some (.slice (some ⟨gF, 0, none⟩) 64 64) := H3.c2
              have hcid : W2.drew.cell? ⟨gB, i, none⟩ = some (.slice a L c) := hci
              have hfid : W2.drew.cell? ⟨gF, i, none⟩ = some (.int .i64 d0) := hfi
              have hzd : W2.drew.frozen? ⟨gF, i, none⟩ = false := H3.ftab i
              have S4 : DStep Y Z w1 (W2.setCell ⟨gF, i, none⟩ (.int .i64 (L : Int))).drew := S3.trans ⟨rfl, rfl, rfl, Nat.le_of_eq (World.size_setCell _ _ _).symm, fun y _ hY => (Below.heap_setCell _ _ _ _ (fun e => hY (by rw [e]; exact H3.yf))), fun y hy => .inl hy⟩
              clear hset hL hd0 hrow hblk hvi H3 S3 hci hfi
              go_upto_region 28 with fail
              go_still_tail 14, (by kernel_rfl)
              change wpList _ _ _ _ _ W2.drew
              go_wp2_with fail
              go_roundw
              case rel => exact ⟨i + 1, by simp, hlt, HFS.out.later (Below.refl _ _).drew, S4⟩
              case measure => show 64 - ((i : Int) + 1).toNat < 64 - ((i : Int)).toNat; omega
            · obtain rfl : i = 64 := by omega
              rw [hardF_64] at H3
              have n3 := H3.c3
              have n4 := H3.c4
              have nf := fun j => H3.fz j
              have hnb := H3.blk
              unfold moO at hnb
              have HN3 := Bx.mk H3
              have HNB := Bx.mk hnb
              have hyq := H3.yq
              have hokR := harden_ok HOK.out
              have HOR : Bx (DOk R) := ⟨by rw [← HR.out]; exact ⟨hokR.out, hokR.dur, hokR.room, hokR.used, Nat.zero_le _⟩⟩
              have HRF : Bx (R.fs = R2.harden.fs ∧ R.room = D.room ∧ R.off = false ∧ R.armed = false) := ⟨by rw [← HR.out]; exact ⟨rfl, hrmE, rfl, rfl⟩⟩
              clear H3 hnb hokR
              go_wp2_with fail
              go_end0
              have S5 : DStep Y Z w ((W2.setCell ⟨q, 3, none⟩ (.bool false)).setCell ⟨q, 4, none⟩ (.int .i64 (-1))) := (DStep.ofBelow Y HB1.out).trans (S3.trans ((((PStep.refl q W2).set 3 (.bool false)).set 4 (.int .i64 (-1))).toD hyq))
              obtain ⟨f1, f2, f3, f4⟩ := HRF.out
              refine ⟨rfl, Z, ⟨gB, gF, us, -1, ?_, ⟨(fun h => by rw [f4] at h; cases h), (fun _ => by omega)⟩, HOR.out⟩, S5⟩
              have e : durs R = durs R2.harden := by unfold durs; rw [f1]
              rw [e, f1, f2, f3]
              refine HN3.out.turn ?_ (by simp) (fun k _ hk => (Below.heap_setCell _ _ _ _ hk).trans (Below.heap_setCell _ _ _ _ hk))
              have := setBlk (setBlk HNB.out 3 (.bool false)) 4 (.int .i64 (-1))
              simp only [List.setIfInBounds_toArray, List.set_cons_succ, List.set_cons_zero] at this
              unfold moO
              exact this
end Go.Proofs.Ytmofakcpldbbmaa
