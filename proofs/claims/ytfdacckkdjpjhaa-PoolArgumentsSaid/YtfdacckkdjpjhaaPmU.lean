/- The law PoolArguments. -/
import Derived.Test.YtfdacckkdjpjhaaPmR
namespace Go.Proofs.Ytfdacckkdjpjhaa
open Go.RowKit

theorem rv_zeros34 (W : World) (g n : Nat) (hn : n ≤ maxLen) (h : W.heap[g]? = some (.cells (madeCells #[.int .u8 0] n) 5 (0, 0))) : Rv W (.slice (some ⟨g, 0, none⟩) n n) n ((List.replicate n (0 : UInt8)).map vB) :=
  Rv.of_cells (Nat.le_refl _) hn (fun i u hu => by
    have hl := toList_madeCells_one (.int .u8 0) n
    unfold World.cell?
    rw [h]
    simp only [List.map_replicate] at hu
    have e : vB 0 = .int .u8 0 := rfl
    rw [e, ← hl, Array.getElem?_toList] at hu
    simpa using hu)
theorem add_long {D D1 : Pl} {id : Int} {b : List UInt8} {r : Int} (h0 : 0 ≤ id) (hb : 65536 < b.length) (h : AddRel id b D r D1) : r = 4 ∧ D1 = D := by
  unfold AddRel Pl.add at h
  rw [if_neg (by omega), if_pos (.inl hb)] at h
  cases h
  exact ⟨rfl, rfl⟩
/-- The zeros that a call makes. -/
structure Zrs (o : Obj) (zs : List UInt8) : Prop where
  len : zs.length = 65537
  rv : ∀ W : World, Rv (W.alloc o) (.slice (some ⟨W.heap.size, 0, none⟩) 65537 65537) zs.length (zs.map vB)
theorem zrs_ex : ∃ o zs, o = Obj.cells (madeCells #[.int .u8 0] 65537) 5 ∧ Zrs o zs := by
  refine ⟨_, List.replicate 65537 0, rfl, List.length_replicate, fun W => ?_⟩
  have := rv_zeros34 (W.alloc (.cells (madeCells #[.int .u8 0] 65537) 5)) W.heap.size 65537 (by unfold maxLen; omega) (World.alloc_heap_new W _)
  rw [List.length_replicate]
  exact this
set_option maxRecDepth 20000 in
set_option maxHeartbeats 4000000 in
theorem law_PoolArguments (workers timeout worker tick id : Int) (w : World) (hid : -9223372036854775808 ≤ id ∧ id ≤ 9223372036854775807) :
    Calls Try.prog 6 #[.int .i64 workers, .int .i64 timeout, .int .i64 worker, .int .i64 tick, .int .i64 id] w fun e w' => e = .returned (.bool true) ∧ Below w.heap.size w w' := by
  have HID := Bx.mk hid
  clear hid
  obtain ⟨Zo, zs, hZ, hzz⟩ := zrs_ex
  have hmk : ∀ W : World, (Instr.makeSlice 35 (.int .i64 65537) (.int .i64 65537)).run Try.prog W = .ok (.slice (some ⟨W.heap.size, 0, none⟩) 65537 65537) (W.alloc Zo) := fun W => by
    obtain ⟨i, hi, hz, hsz, hby⟩ := info_parts Try.infoB
    have h := run_make (P := Try.prog) W 35 5 i _ Try.underlying35 hi hz .i64 .i64 65537 65537 (by omega) (Int.le_refl _) (by rw [hby]; omega) (by omega)
    rw [hsz, show ((65537 : Int)).toNat = 65537 from rfl] at h
    rw [hZ]
    simpa [Value.cells] using h
  have HMK := Bx.mk hmk
  clear hZ hmk
  go_enter Try.func6, Try.ntmps6
  by_cases hgood : (1 ≤ workers ∧ workers ≤ 64) ∧ 1 ≤ timeout ∧ timeout ≤ 1099511627776
  case' neg =>
    go_wp2_with fail
    refine (pnew_bad workers timeout (by omega) w).mono ?_
    rintro e w1 ⟨rfl, hw1⟩
    have B1 : Below w.heap.size w w1 := by rw [hw1]; exact Below.refl _ _
    have HM := Bx.mk (fun W => mnew_bad workers timeout (by omega) W)
    clear hw1
    go_wp2_with fail
    refine (HM.out w1).mono ?_
    rintro e w2 ⟨rfl, hw2⟩
    have B0 : Below w.heap.size w w2 := by rw [hw2]; exact B1
    clear hw2 B1 HM hgood
    go_upto_region 5 with fail
  case' pos =>
    obtain ⟨n, rfl⟩ : ∃ n : Nat, workers = (n : Int) := ⟨workers.toNat, by omega⟩
    obtain ⟨⟨g1, g2⟩, g3, g4⟩ := hgood
    have HP := Bx.mk (pz_new n timeout (by omega) ⟨g3, g4⟩ w)
    have HM := Bx.mk (fun W => mnew_any n timeout (by omega) ⟨g3, g4⟩ W)
    clear g1 g2 g3 g4
    go_wp2_with fail
    refine HP.out.mono ?_
    rintro e w1 ⟨p0, Z0, rfl, _, _, B1⟩
    go_wp2_with fail
    refine (HM.out w1).mono ?_
    rintro e w2 ⟨q0, Y0, rfl, _, _, B2⟩
    have B0 := bel B1 B2
    clear B1 B2 HP HM
    go_upto_region 5 with fail
  all_goals
    go_wp2_with fail
    refine (pz_new 2 5 (by decide) (by decide) w2).mono ?_
    rintro e w3 ⟨p, Z, rfl, P3, hZ3, B3⟩
    have HP3 := Bx.mk P3
    have HB3 : Bx (Below w.heap.size w w3 ∧ ∀ b, Z b → w.heap.size ≤ b) := ⟨bel B0 B3, fun b hb => by have h1 := hZ3 b hb; have h2 := B0.size; omega⟩
    clear P3 B3 B0 hZ3
    go_wp2_with fail
    refine (mnew_any 2 5 (by decide) (by decide) w3).mono ?_
    rintro e w4 ⟨q, Y, rfl, M4, hY4, B4⟩
    have T4 : TwU w w4 p Z (newPl 2 5) q Y (mdOf (newPl 2 5) []) (fun _ => False) := ⟨two_new HP3.out B4 M4 hY4, bel HB3.out.1 B4, fun b hb => hb.elim (HB3.out.2 b) (fun e => by have h1 := hY4 b e; have h2 := HB3.out.1.size; omega)⟩
    have S4 := Sim.new 2 5
    clear M4 hY4 B4 HP3 HB3
    obtain ⟨D0, hD0⟩ : ∃ D, newPl 2 5 = D := ⟨_, rfl⟩
    rw [hD0] at T4 S4
    clear hD0
    have OK0 := Bx.mk T4.two.pz.ok
    have HT4 := Bx.mk T4
    have HS4 := Bx.mk S4
    clear T4 S4
    have OK5 := Bx.mk HT4.out.two.pz.ok
    go_wp2_with fail
    refine (tw_add id (.slice none 0 0) [] w4 HT4.out HID.out.2 (Rv.nil _) (by decide)).mono ?_
    rintro e w5 ⟨r1, D1, Z, rfl, hr, T5⟩
    have HT5 := Bx.mk T5
    have HR := Bx.mk hr
    clear HT4 T5 hr
    go_wp2_with fail
    refine (tw_madd (.slice none 0 0) w5 HR.out HT5.out OK5.out HS4.out (Rv.nil _) (by decide) (fun g hg => by cases hg)).mono ?_
    rintro e w6 ⟨rfl, Y, T6, S6⟩
    have HT6 := Bx.mk T6
    have HS6 := Bx.mk S6
    clear HT5 HS4 HR OK5 T6 S6
    have OK7 := Bx.mk HT6.out.two.pz.ok
    go_wp2_with fail
    refine (tw_add 3 (.slice (some ⟨w6.heap.size, 0, none⟩) 1 1) [1] _ (HT6.out.later ((Below.refl w6.heap.size w6).alloc (Nat.le_refl _) (.cells #[.int .u8 1] 5))) (by decide) (Rv.one w6 (.int .u8 1) 5) (by decide)).mono ?_
    rintro e w7 ⟨r2, D2, Z, rfl, hr, T7⟩
    have HT7 := Bx.mk T7
    have HR := Bx.mk hr
    clear HT6 T7 hr
    go_wp2_with fail
    refine (tw_madd (.slice (some ⟨w7.heap.size, 0, none⟩) 1 1) _ HR.out (HT7.out.lit (.cells #[.int .u8 1] 5)) OK7.out HS6.out (Rv.one w7 (.int .u8 1) 5) (by decide) (fun g hg => .inr (by cases hg; rfl))).mono ?_
    rintro e w8 ⟨rfl, Y, T8, S8⟩
    have HT8 := Bx.mk T8
    have HS8 := Bx.mk S8
    clear HT7 HS6 HR OK7 T8 S8
    have OK9 := Bx.mk HT8.out.two.pz.ok
    go_wp2_with fail
    refine (tw_add id (.slice none 0 0) [] w8 HT8.out HID.out.2 (Rv.nil _) (by decide)).mono ?_
    rintro e w9 ⟨r3, D3, Z, rfl, hr, T9⟩
    have HT9 := Bx.mk T9
    have HR := Bx.mk hr
    clear HT8 T9 hr
    go_wp2_with fail
    refine (tw_madd (.slice none 0 0) w9 HR.out HT9.out OK9.out HS8.out (Rv.nil _) (by decide) (fun g hg => by cases hg)).mono ?_
    rintro e w10 ⟨rfl, Y, T10, S10⟩
    have HT10 := Bx.mk T10
    have HS10 := Bx.mk S10
    clear HT9 HS8 HR OK9 T10 S10
    have hmk := HMK.out
    go_wp2_with fail
    clear hmk
    refine (tw_add 4 (.slice (some ⟨w10.heap.size, 0, none⟩) 65537 65537) zs _ (HT10.out.later ((Below.refl w10.heap.size w10).alloc (Nat.le_refl _) Zo)) (by decide) (hzz.rv w10) (by rw [hzz.len]; decide)).mono ?_
    rintro e w11 ⟨r4, D4, Z, rfl, hr, T11⟩
    obtain ⟨rfl, rfl⟩ := add_long (by decide) (by rw [hzz.len]; decide) hr
    have HT11 := Bx.mk T11
    clear HT10 T11 hr
    have OK12 := Bx.mk HT11.out.two.pz.ok
    go_wp2_with fail
    refine (tw_ask worker tick w11 HT11.out HS10.out (by decide)).mono ?_
    rintro e w12 ⟨bv, A5, D5, L5, Z, rfl, hr, O5, T12⟩
    obtain ⟨a5, c5, rfl⟩ := own_isSlice O5
    obtain ⟨aid, abody, an, ais, aerr⟩ := A5
    obtain ⟨abl, habl⟩ : ∃ n, abody.length = n := ⟨_, rfl⟩
    simp only at O5 hr ⊢
    rw [habl] at O5 ⊢
    have HR := Bx.mk hr
    clear HT11 hr habl O5
    go_upto_region 12 with fail
    have T12 := T12.lit (.cells #[.int .i64 aid, .slice a5 abl c5] 37)
    have hb5 := World.alloc_heap_new w12 (.cells #[.int .i64 aid, .slice a5 abl c5] 37)
    have HT12 := Bx.mk T12
    clear T12
    generalize w12.alloc (.cells #[.int .i64 aid, .slice a5 abl c5] 37) = w12a at *
    obtain ⟨tb, htb⟩ : ∃ b, w12.heap.size = b := ⟨_, rfl⟩
    rw [htb] at hb5 HT12 ⊢
    have HB5 := Bx.mk hb5
    clear hb5 htb
    go_wp2_with fail
    refine (tw_mask w12a HR.out HT12.out OK12.out HS10.out (by decide)).mono ?_
    rintro e w13 ⟨rfl, Y, T13, S13, ro⟩
    have hb6 := (ro tb (.inr rfl)).trans HB5.out
    have t0 : w13.cell? ⟨tb, 0, none⟩ = some (.int .i64 aid) := by simp [World.cell?, hb6]
    have HT13 := Bx.mk T13
    have HS13 := Bx.mk S13
    clear HT12 HS10 HR OK12 T13 S13 HB5 hb6 ro
    have OK14 := Bx.mk HT13.out.two.pz.ok
    go_wp2_with fail
    refine (tw_answer id worker 0 (.slice none 0 0) [] tick w13 HT13.out (by decide) (Rv.nil _) (by decide) (fun g hg => by cases hg)).mono ?_
    rintro e w14 ⟨f6, r6, D6, Z, rfl, hr, T14⟩
    have HT14 := Bx.mk T14
    have HR := Bx.mk hr
    clear HT13 T14 hr
    go_wp2_with fail
    refine (tw_manswer (.slice none 0 0) w14 HR.out HT14.out OK14.out HS13.out (by decide) (Rv.nil _) (by decide) (fun g hg => by cases hg)).mono ?_
    rintro e w15 ⟨rfl, Y, T15, S15⟩
    have HT15 := Bx.mk T15
    have HS15 := Bx.mk S15
    clear HT14 HS13 HR OK14 T15 S15
    have OK16 := Bx.mk HT15.out.two.pz.ok
    go_wp2_with fail
    refine (tw_ask 0 3 w15 HT15.out HS15.out (by decide)).mono ?_
    rintro e w16 ⟨bv, A7, D7, L7, Z, rfl, hr, O7, T16⟩
    obtain ⟨a7, c7, rfl⟩ := own_isSlice O7
    have HT16 := Bx.mk T16
    have HR := Bx.mk hr
    clear HT15 T16 hr O7
    go_wp2_with fail
    refine (tw_mask w16 HR.out HT16.out OK16.out HS15.out (by decide)).mono ?_
    rintro e w17 ⟨rfl, Y, T17, S17, _⟩
    have HT17 := Bx.mk T17
    have HS17 := Bx.mk S17
    clear HT16 HS15 HR OK16 T17 S17
    have OK18 := Bx.mk HT17.out.two.pz.ok
    have hmk := HMK.out
    go_wp2_with fail
    clear hmk
    refine (tw_answer 3 0 0 (.slice (some ⟨w17.heap.size, 0, none⟩) 65537 65537) zs 1099511627776 _ (HT17.out.lit Zo) (by decide) (hzz.rv w17) (by rw [hzz.len]; decide) (fun g hg => .inr (by cases hg; rfl))).mono ?_
    rintro e w18 ⟨f8, r8, D8, Z, rfl, hr, T18⟩
    have HT18 := Bx.mk T18
    have HR := Bx.mk hr
    clear HT17 T18 hr
    have hmk := HMK.out
    go_wp2_with fail
    clear hmk
    refine (tw_manswer (.slice (some ⟨w18.heap.size, 0, none⟩) 65537 65537) _ HR.out (HT18.out.lit Zo) OK18.out HS17.out (by decide) (hzz.rv w18) (by rw [hzz.len]; decide) (fun g hg => .inr (by cases hg; rfl))).mono ?_
    rintro e w19 ⟨rfl, Y, T19, S19⟩
    have HT19 := Bx.mk T19
    have HS19 := Bx.mk S19
    clear HT18 HS17 HR OK18 T19 S19 HMK hzz
    have OK20 := Bx.mk HT19.out.two.pz.ok
    go_wp2_with fail
    refine (tw_die worker tick w19 L7 HT19.out).mono ?_
    rintro e w20 ⟨r9, D9, L9, Z, rfl, hr, T20⟩
    have HT20 := Bx.mk T20
    have HR := Bx.mk hr
    clear HT19 T20 hr
    go_wp2_with fail
    refine (tw_mdie w20 HR.out HT20.out OK20.out HS19.out (by decide)).mono ?_
    rintro e w21 ⟨rfl, Y, T21, S21⟩
    have HT21 := Bx.mk T21
    have HS21 := Bx.mk S21
    clear HT20 HS19 HR OK20 T21 S21
    go_wp2_with fail
    refine (tw_revive worker w21 HT21.out).mono ?_
    rintro e w22 ⟨r10, D10, Z, rfl, hr, T22⟩
    have HT22 := Bx.mk T22
    have HR := Bx.mk hr
    clear HT21 T22 hr
    go_wp2_with fail
    refine (tw_mrevive w22 HR.out HT22.out HS21.out).mono ?_
    rintro e w23 ⟨rfl, Y, T23, S23⟩
    have HT23 := Bx.mk T23
    have HAG := Bx.mk (agrees_any w23 T23.two S23)
    clear HT22 HS21 HR T23 S23
    go_wp2_with fail
    refine HAG.out.mono ?_
    rintro e w50 ⟨rfl, B50⟩
    have HB50 := Bx.mk (bel HT23.out.bel B50)
    have HLV := Bx.mk (lives34_any w50)
    clear HT23 HAG B50
    go_wp2_with fail
    refine HLV.out.mono ?_
    rintro e w51 ⟨rfl, B51⟩
    have HB51 := Bx.mk (bel HB50.out B51)
    clear HB50 HLV B51
    go_wp2_with fail
    go_ret
    exact ⟨rfl, HB51.out⟩
end Go.Proofs.Ytfdacckkdjpjhaa
