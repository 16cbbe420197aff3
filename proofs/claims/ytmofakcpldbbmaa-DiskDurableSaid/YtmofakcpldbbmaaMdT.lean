/- The law DiskDurable. -/
import Derived.Test.YtmofakcpldbbmaaMdS
import Derived.Deep.CutBlock
namespace Go.Proofs.Ytmofakcpldbbmaa
open Go.RowKit

theorem rv_cut {W : World} {a : Option Addr} {n c : Nat} {l : List UInt8} (h : Rv W (.slice a n c) n (l.map vB)) (s : Nat) (hs : s ≤ n) : Rv W (.slice a s c) s ((l.take s).map vB) := by
  obtain ⟨ao, cap, e, _, hF⟩ := h.firsts s hs
  injection e with e1 e2 e3
  subst e1 e3
  rw [List.map_take]
  exact hF s rfl
theorem arm_neg_ok {D : Dk} (h : DOk D) : DOk (D.arm (-1)) := by
  unfold Dk.arm
  split
  · exact h
  · exact ⟨h.out, h.dur, h.room, h.used, Nat.zero_le _⟩
/-- What is read after the crash, against what was there at the Sync. -/
theorem crash_ext {H E : Dk} (hE : DOk E) (h : ExtOf H E) (hd : ∀ k, (H.fs k).2 = (H.fs k).1.length) (keep : List Int) (flip : Int) (k : Int) :
    (H.fs k).1.length ≤ ((E.crash keep flip).fs k).1.length ∧ ((E.crash keep flip).fs k).1.length ≤ (E.fs k).1.length ∧ ((E.crash keep flip).fs k).1.take (H.fs k).1.length = (H.fs k).1 := by
  obtain ⟨h1, h2, h3⟩ := crash_keeps hE keep flip k
  rw [h.dur k, hd k] at h1 h3
  refine ⟨h1, h2, ?_⟩
  rw [h3]
  obtain ⟨t, ht⟩ := h.pre k
  rw [← ht, List.take_left]
set_option linter.unusedSimpArgs false in
set_option maxRecDepth 20000 in
set_option maxHeartbeats 4000000 in
theorem law_DiskDurable (room flip : Int) (v u kv : Value) (l m ks : List Int) (w : World) (hr : -9223372036854775808 ≤ room ∧ room ≤ 9223372036854775807) (hv : Rv w v l.length (l.map (Value.int .i64))) (hx : ∀ x ∈ l, -9223372036854775808 ≤ x ∧ x ≤ 9223372036854775807)
    (hu : Rv w u m.length (m.map (Value.int .i64))) (hy : ∀ x ∈ m, -9223372036854775808 ≤ x ∧ x ≤ 9223372036854775807) (hk : Rv w kv ks.length (ks.map (Value.int .i64))) (hz : ∀ x ∈ ks, -9223372036854775808 ≤ x ∧ x ≤ 9223372036854775807)
    (hf : -9223372036854775808 ≤ flip ∧ flip ≤ 9223372036854775807) :
    Calls Try.prog 5 #[.int .i64 room, v, u, kv, .int .i64 flip] w fun e w' => e = .returned (.bool true) ∧ Below w.heap.size w w' := by
  obtain ⟨av, cv, rfl, _, _⟩ := hv.opened
  obtain ⟨au, cu, rfl, _, _⟩ := hu.opened
  obtain ⟨ak, ck, rfl, _, _⟩ := hk.opened
  have HF := Bx.mk hf
  have HY := Bx.mk hy
  have HZ := Bx.mk hz
  clear hf hy hz
  go_enter Try.func5, Try.ntmps5
  go_wp2_with fail
  refine (made_any room _ l w hr hv hx).mono ?_
  rintro e w1 ⟨p, q, X, Y, D, rfl, D1, M1, sep, lX, lY, B1⟩
  clear hr hx hv
  go_wp2_with fail
  refine (darm w1 (-1) (by decide) D1).mono ?_
  rintro e w2 ⟨rfl, D2, S2⟩
  have M2 := M1.other S2 sep
  have B2 := B1.trans (S2.toBelow B1.size lX)
  have hok1 := arm_neg_ok D1.ok
  obtain ⟨off, hoff⟩ : ∃ o, D.off = o := ⟨_, rfl⟩
  have hao : (D.arm (-1)).off = off := by unfold Dk.arm; split <;> exact hoff
  have hafs : (D.arm (-1)).fs = D.fs := by unfold Dk.arm; split <;> rfl
  have haa : off = false → (D.arm (-1)).armed = false := fun h => by unfold Dk.arm; rw [hoff, h]; rfl
  obtain ⟨E, hE⟩ : ∃ E, D.arm (-1) = E := ⟨_, rfl⟩
  rw [hE] at D2 hok1 hao hafs haa
  have HAFS := Bx.mk hafs
  have HAA := Bx.mk haa
  have HAO := Bx.mk hao
  have HOK1 := Bx.mk hok1
  clear D1 M1 B1 S2 hoff hE hafs haa hao hok1
  go_wp2_with fail
  refine (don w2 D2).mono ?_
  rw [HAO.out]
  rintro e w3 ⟨rfl, n3, rfl⟩
  have D3 := D2.later (belD (Below.refl w2.heap.size w2) n3)
  have M3 := M2.later (belD (Below.refl w2.heap.size w2) n3)
  have B3 := belD B2 n3
  generalize w2.drewN n3 = w3 at D3 M3 B3 ⊢
  clear D2 M2 B2
  have hsy := dsync w3 D3
  cases off
  · have hs1 : E.sync = (0, E.harden) := by
      have hfl : E.fails = E := by unfold Dk.fails; rw [HAA.out rfl]; rfl
      have hfb : E.failsB = false := by unfold Dk.failsB; rw [HAA.out rfl]; rfl
      unfold Dk.sync
      rw [HAO.out, hfb, hfl]
      rfl
    rw [hs1] at hsy
    have HSY := Bx.mk hsy
    clear hs1 hsy
    have hh1 : ∀ k, (E.harden.fs k).2 = (E.harden.fs k).1.length := fun k => rfl
    have hh2 : ∀ k, (E.harden.fs k).1 = (D.fs k).1 := fun k => by show (E.fs k).1 = _; rw [HAFS.out]
    have hh3 : E.harden.off = false := HAO.out
    have hh4 : E.harden.armed = false := HAA.out rfl
    obtain ⟨H, hH⟩ : ∃ H, E.harden = H := ⟨_, rfl⟩
    rw [hH] at hh1 hh2 hh3 hh4 HSY
    have HH1 := Bx.mk hh1
    have HH2 := Bx.mk hh2
    have HH3 := Bx.mk hh3
    have HH4 := Bx.mk hh4
    clear hh1 hh2 hh3 hh4 hH D3
    go_wp2_with fail
    refine HSY.out.mono ?_
    rintro e w4 ⟨rfl, D4, S4⟩
    have D4 : DAt w4 p X H := D4
    have M4 := M3.other S4 sep
    have B4 := B3.trans (S4.toBelow B3.size lX)
    clear HSY M3 S4 B3
    go_wp2_with fail
    refine (dcopy w4 D4).mono ?_
    rintro e w5 ⟨c, Z, rfl, C5, hZ, B5⟩
    have D5 := D4.later B5
    have M5 := M4.later B5
    have B5' := bel B4 B5
    have sXZ : Sep X Z := fun b hx hz => by have h1 := D4.xl b hx; have h2 := hZ b hz; omega
    have sYZ : Sep Y Z := fun b hx hz => by have h1 := M4.yl b hx; have h2 := hZ b hz; omega
    have hs4 := B4.size
    have lZ : ∀ b, Z b → w.heap.size ≤ b := fun b hb => by have := hZ b hb; omega
    clear D4 M4 B4 hZ B5 hs4
    go_wp2_with fail
    refine (ints_any _ ks 4 (by decide) w5 (hk.below B5')).mono ?_
    rintro e w6 ⟨v6, rfl, Mk⟩
    obtain ⟨k4, hk4⟩ : ∃ k, ks.take 4 = k := ⟨_, rfl⟩
    rw [hk4] at Mk
    have O6 := Mk.1
    rw [List.length_map] at O6
    have B6 := Mk.2
    have D6 := D5.later B6
    have M6 := M5.later B6
    have C6 := C5.later B6
    have B6' := bel B5' B6
    have oX : Off v6 X := Off.ge O6 D5.xl
    have oZ : Off v6 Z := Off.ge O6 C5.xl
    have hk64 : ∀ x ∈ k4, x ≤ 9223372036854775807 := fun x hx => by rw [← hk4] at hx; exact (HZ.out x (List.mem_of_mem_take hx)).2
    have HK64 := Bx.mk hk64
    obtain ⟨a6, c6, rfl⟩ := own_isSlice O6
    obtain ⟨kl, hkl⟩ : ∃ n, k4.length = n := ⟨_, rfl⟩
    have HKL := Bx.mk hkl
    rw [hkl] at O6 oX oZ ⊢
    clear Mk D5 M5 C5 B5' B6 hk4 hk64 hkl
    go_wp2_with fail
    refine (dcrash w6 k4 _ flip HF.out.2 HK64.out C6 (by rw [HKL.out]; exact Rv.of_own O6) oZ).mono ?_
    rintro e w7 ⟨rfl, C7, S7⟩
    have D7 := D6.other S7 sXZ.symm
    have M7 := M6.other S7 sYZ.symm
    have O7 := own_step O6 S7 oZ
    have B7 := B6'.trans (S7.toBelow B6'.size lZ)
    have hC : ∀ k, ((H.crash k4 flip).fs k).1 = (D.fs k).1 := fun k => by rw [crash_same D6.ok HH1.out k4 flip k, HH2.out k]
    have hCo : (H.crash k4 flip).off = false := rfl
    obtain ⟨C, hCe⟩ : ∃ C, H.crash k4 flip = C := ⟨_, rfl⟩
    rw [hCe] at C7 hC hCo
    have HC := Bx.mk hC
    have HCO := Bx.mk hCo
    have hext : ExtOf H H := ⟨HH3.out, HH4.out, fun _ => rfl, fun _ => List.prefix_refl _⟩
    have HEXT := Bx.mk hext
    clear D6 M6 C6 B6' S7 O6 hC hCo hCe hext
    go_upto_block 0 with fail
    go_cut [] from 60 to 82 (fun wx => ∃ (E : Dk) (X : Nat → Prop), DAt wx p X E ∧ Bx (ExtOf H E) ∧ MAt wx q Y D ∧ DAt wx c Z C ∧ Sep X Y ∧ Sep X Z ∧ wx.ownsRow w5.heap.size 3 1 (.slice a6 kl c6) kl (k4.map (Value.int .i64)) ∧ Off (.slice a6 kl c6) X ∧ (∀ b, X b → w.heap.size ≤ b) ∧ Below w.heap.size w wx)
    case first =>
      go_wp2_with fail
      go_loopw [15] (fun uu W => ∃ (i : Nat) (E : Dk) (X : Nat → Prop), uu = .int .i64 (i : Int) ∧ i ≤ m.length ∧ i ≤ 6 ∧ DAt W p X E ∧ Bx (ExtOf H E) ∧ MAt W q Y D ∧ DAt W c Z C ∧ Sep X Y ∧ Sep X Z ∧ W.ownsRow w5.heap.size 3 1 (.slice a6 kl c6) kl (k4.map (Value.int .i64)) ∧ Off (.slice a6 kl c6) X ∧ (∀ b, X b → w.heap.size ≤ b) ∧ Below w.heap.size w W) (fun uu _ => 6 - (intOf uu).toNat)
      case atStart => exact ⟨0, H, X, rfl, Nat.zero_le _, Nat.zero_le _, D7, HEXT, M7, C7, sep, sXZ, O7, oX, lX, B7⟩
      case round =>
        clear D7 HEXT M7 C7 sep sXZ O7 oX lX B7 sYZ oZ
        rename World => W
        obtain ⟨i, E, X, rfl, him, hi6, D7, HEXT, M7, C7, sXY, sXZ, O7, oX, lX, B7⟩ := hrel
        by_cases hlt : i < m.length
        · by_cases hl6 : i < 6
          · obtain ⟨b2, off2, ha, hcw⟩ := rv_at hu (List.getElem?_eq_getElem hlt)
            subst ha
            have hcx := (B7.cell (World.block_lt_of_cell? w _ hcw)).trans hcw
            have HX2 := Bx.mk (HY.out m[i] (List.getElem_mem hlt))
            obtain ⟨x, hx⟩ : ∃ x, m[i] = x := ⟨_, rfl⟩
            rw [hx] at hcx hcw HX2
            clear hx
            have hwW := B7.size
            go_upto_region 17 with fail
            have s0 : W.drew.cell? ⟨b2, off2 + i, none⟩ = some (.int .i64 x) := hcx
            have hcxa : ∀ o : Obj, (W.drew.alloc o).cell? ⟨b2, off2 + i, none⟩ = some (.int .i64 x) := fun o => (((Below.refl W.heap.size W).drew.alloc (Nat.le_refl _) o).cell (World.block_lt_of_cell? W _ hcx)).trans hcx
            refine wp_region_held_drew (S := fun W' => W'.cell? ⟨b2, off2 + i, none⟩ = some (.int .i64 x)) (by kernel_rfl) s0 (fun _ => ?_)
            refine wpAnyH_do 0 70 rfl rfl (by kernel_rfl) (by kernel_rfl) (by kernel_rfl) (fun _ _ _ _ _ h => h) (by kernel_rfl) (fun W hS => by (obtain s1 := hS); go_simp; try with_reducible rfl) s0 ?_
            simp only [List.setIfInBounds_toArray, List.set_cons_succ, List.set_cons_zero]
            refine wpAnyH_do 1 71 rfl rfl (by kernel_rfl) (by kernel_rfl) (by kernel_rfl) (fun _ _ _ _ _ h => h) (by kernel_rfl) (fun W hS => by (obtain s1 := hS); go_simp; try with_reducible rfl) s0 ?_
            simp only [List.setIfInBounds_toArray, List.set_cons_succ, List.set_cons_zero]
            refine wpAnyH_do 2 72 rfl rfl (by kernel_rfl) (by kernel_rfl) (by kernel_rfl) (fun _ _ _ _ _ h => h) (by kernel_rfl) (fun W hS => by (obtain s1 := hS); go_simp; try with_reducible rfl) s0 ?_
            simp only [List.setIfInBounds_toArray, List.set_cons_succ, List.set_cons_zero]
            refine wpAnyH_do 3 73 rfl rfl (by kernel_rfl) (by kernel_rfl) (by kernel_rfl) (fun _ _ _ _ _ h => h) (by kernel_rfl) (fun W hS => by (obtain s1 := hS); go_simp; try with_reducible rfl) s0 ?_
            simp only [List.setIfInBounds_toArray, List.set_cons_succ, List.set_cons_zero]
            refine wpAnyH_do 4 74 rfl rfl (by kernel_rfl) (by kernel_rfl) (by kernel_rfl) (fun _ _ _ _ _ h => h) (by kernel_rfl) (fun W hS => by (obtain s1 := hS); go_simp; try with_reducible rfl) s0 ?_
            simp only [List.setIfInBounds_toArray, List.set_cons_succ, List.set_cons_zero]
            refine wpAnyH_do 6 76 rfl rfl (by kernel_rfl) (by kernel_rfl) (by kernel_rfl) (fun _ _ _ _ _ h => h) (by kernel_rfl) (fun W hS => by (obtain s1 := hS); go_simp; try with_reducible rfl) s0 ?_
            simp only [List.setIfInBounds_toArray, List.set_cons_succ, List.set_cons_zero]
            refine wpAnyH_do 7 77 rfl rfl (by kernel_rfl) (by kernel_rfl) (by kernel_rfl) (fun _ _ _ _ _ h => h) (by kernel_rfl) (fun W hS => by (obtain s1 := hS); go_simp; try with_reducible rfl) s0 ?_
            simp only [List.setIfInBounds_toArray, List.set_cons_succ, List.set_cons_zero]
            refine wpAnyH_do 8 78 rfl rfl (by kernel_rfl) (by kernel_rfl) (by kernel_rfl) (fun _ _ _ _ _ h => h) (by kernel_rfl) (fun W hS => by (obtain s1 := hS); go_simp; try with_reducible rfl) s0 ?_
            simp only [List.setIfInBounds_toArray, List.set_cons_succ, List.set_cons_zero]
            refine wpAnyH_do 9 79 rfl rfl (by kernel_rfl) (by kernel_rfl) (by kernel_rfl) (fun _ _ _ _ _ h => h) (by kernel_rfl) (fun W hS => by (obtain s1 := hS); go_simp; try with_reducible rfl) s0 ?_
            simp only [List.setIfInBounds_toArray, List.set_cons_succ, List.set_cons_zero]
            refine wpAnyH_do 10 80 rfl rfl (by kernel_rfl) (by kernel_rfl) (by kernel_rfl) (fun _ _ _ _ _ h => h) (by kernel_rfl) (fun W hS => by (obtain s1 := hS); go_simp; try with_reducible rfl) s0 ?_
            simp only [List.setIfInBounds_toArray, List.set_cons_succ, List.set_cons_zero]
            refine wpAnyH_two 5 11 rfl rfl (by kernel_rfl) (by kernel_rfl) (by kernel_rfl) (fun K hK => ?_) (fun K hK => ?_)
            go_simp
            refine (around_nat x 3 (by omega) HX2.out.1 HX2.out.2 (by omega) _).mono ?_
            rintro e w8 ⟨n, hn, _, rfl, rfl⟩
            refine hK _ _ s0 ?_
            clear hK
            try simp only [Act.put, List.setIfInBounds_toArray, List.set_cons_zero, List.set_cons_succ]
            refine wpAnyH_one 11 rfl (by kernel_rfl) (by kernel_rfl) (fun K hK => ?_)
            go_simp
            refine hK _ _ (hcxa _) ?_
            clear hK
            refine later ?_
            rotate_left
            go_simp
            refine hK _ _ (hcxa _) ?_
            clear hK
            try simp only [Act.put, List.setIfInBounds_toArray, List.set_cons_zero, List.set_cons_succ]
            refine wpAnyH_one 5 rfl (by kernel_rfl) (by kernel_rfl) (fun K hK => ?_)
            go_simp
            refine (around_nat x 3 (by omega) HX2.out.1 HX2.out.2 (by omega) _).mono ?_
            rintro e w8 ⟨n, hn, _, rfl, rfl⟩
            refine hK _ _ (hcxa _) ?_
            clear hK
            refine later ?_
            all_goals
              refine Later.in ?_
              try simp only [Act.put, List.setIfInBounds_toArray, List.set_cons_zero, List.set_cons_succ]
              refine wpAnyH_one 12 rfl (by kernel_rfl) (by kernel_rfl) (fun K hK => ?_)
              go_simp
              have BA := (Below.refl W.heap.size W).drew.alloc (Nat.le_refl _) (.cells #[vB (UInt8.ofNat (IntKind.u8.wrap x).toNat), vB 7] 5)
              have RA := Rv.lit W.drew [vB (UInt8.ofNat (IntKind.u8.wrap x).toNat), vB 7] 5 2 (by decide)
              rw [u8val]
              refine (dappend _ (n : Int) _ [UInt8.ofNat (IntKind.u8.wrap x).toNat, 7] (D7.later BA) RA (off_new D7.xl 2 2) (by simp)).mono ?_
              rintro e w9 ⟨rfl, X9, D9, S9⟩
              have M9 := (M7.later BA).other S9 sXY
              have C9 := (C7.later BA).other S9 sXZ
              have O9 := own_step (own_below O7 BA) S9 oX
              have o9 := oX.step S9 (own_below O7 BA)
              have B9 := B7.trans (((BA.mono hwW)).trans (S9.toBelow (by rw [World.size_alloc]; show w.heap.size ≤ W.heap.size + 1; omega) lX))
              have l9 := S9.ge (B := w.heap.size) (by rw [World.size_alloc]; show w.heap.size ≤ W.heap.size + 1; omega) lX
              have s1 := sXY.step S9 (fun b hb => by rw [World.size_alloc]; have := M7.yl b hb; show b < W.heap.size + 1; omega)
              have s2 := sXZ.step S9 (fun b hb => by rw [World.size_alloc]; have := C7.xl b hb; show b < W.heap.size + 1; omega)
              have x9 : Bx (ExtOf H (E.append (n : Int) [UInt8.ofNat (IntKind.u8.wrap x).toNat, 7]).2) := ⟨HEXT.out.append D7.ok _ _⟩
              have hcx9 := (B9.cell (World.block_lt_of_cell? w _ hcw)).trans hcw
              refine hK _ _ hcx9 ?_
              clear hK
              obtain ⟨E9, hE9⟩ : ∃ E9, (E.append (n : Int) [UInt8.ofNat (IntKind.u8.wrap x).toNat, 7]).2 = E9 := ⟨_, rfl⟩
              rw [hE9] at D9 x9
              have HREL := Bx.mk (And.intro D9 (And.intro x9 (And.intro M9 (And.intro C9 (And.intro s1 (And.intro s2 (And.intro O9 (And.intro o9 (And.intro l9 B9)))))))))
              clear D9 x9 M9 C9 s1 s2 O9 o9 l9 B9 S9 hcx9 hcxa s0 D7 M7 C7 O7 B7 hE9 RA BA
              try simp only [Act.put, List.setIfInBounds_toArray, List.set_cons_zero, List.set_cons_succ]
              refine wpAnyH_done (by kernel_rfl) ?_ _
              go_wp2_with fail
              go_roundw
              case rel =>
                obtain ⟨r1, r2, r3, r4, r5, r6, r7, r8, r9, r10⟩ := HREL.out
                exact ⟨i + 1, E9, X9, by simp, hlt, hl6, r1, r2, r3, r4, r5, r6, r7, r8, r9, r10⟩
              case measure => simp [intOf]; omega
          · go_wp2_with fail
            go_meet
            exact ⟨E, X, D7, HEXT, M7, C7, sXY, sXZ, O7, oX, lX, B7⟩
        · go_wp2_with fail
          go_meet
          exact ⟨E, X, D7, HEXT, M7, C7, sXY, sXZ, O7, oX, lX, B7⟩
    case rest =>
    rename World => w8
    obtain ⟨E8, X8, D8, HEXT8, M8, C8, sXY8, sXZ8, O8, oX8, lX8, B8⟩ := hcut
    clear D7 HEXT M7 C7 sep sXZ O7 oX lX B7
    go_wp2_with fail
    refine (dcopy w8 D8).mono ?_
    rintro e w9 ⟨g9, T, rfl, T9, hT, B9⟩
    have D9 := D8.later B9
    have M9 := M8.later B9
    have C9 := C8.later B9
    have O9 := own_below O8 B9
    have B9' := bel B8 B9
    have sXT : Sep X8 T := fun b hx ht => by have h1 := D8.xl b hx; have h2 := hT b ht; omega
    have hfin := fun k => crash_ext D8.ok HEXT8.out HH1.out k4 flip k
    have HEON := Bx.mk HEXT8.out.on
    clear D8 M8 C8 O8 B8 B9 hT
    go_wp2_with fail
    refine (dcrash w9 k4 _ flip HF.out.2 HK64.out D9 (by rw [HKL.out]; exact Rv.of_own O9) oX8).mono ?_
    rintro e w10 ⟨rfl, D10, S10⟩
    have M10 := M9.other S10 sXY8
    have C10 := C9.other S10 sXZ8
    have T10 := T9.other S10 sXT
    have B10 := B9'.trans (S10.toBelow B9'.size lX8)
    have hFo : (E8.crash k4 flip).off = false := rfl
    obtain ⟨F, hFe⟩ : ∃ F, E8.crash k4 flip = F := ⟨_, rfl⟩
    rw [hFe] at D10 hFo
    have hfin2 : ∀ k, (D.fs k).1.length ≤ (F.fs k).1.length ∧ (F.fs k).1.length ≤ (E8.fs k).1.length ∧ (F.fs k).1.take (D.fs k).1.length = (D.fs k).1 := fun k => by
      have := hfin k
      rw [HH2.out k, hFe] at this
      exact this
    have HFO := Bx.mk hFo
    have HFIN := Bx.mk hfin2
    clear D9 M9 C9 T9 B9' S10 hfin hfin2 hFo hFe O9 oX8 sXT
    go_wp2_with fail
    go_loopw [17] (fun uu W => ∃ (i : Nat), uu = .int .i64 (i : Int) ∧ i ≤ 4 ∧ DAt W p X8 F ∧ MAt W q Y D ∧ DAt W c Z C ∧ DAt W g9 T E8 ∧ Below w.heap.size w W) (fun uu _ => 4 - (intOf uu).toNat)
    case atStart => exact ⟨0, rfl, Nat.zero_le _, D10, M10, C10, T10, B10⟩
    case round =>
      clear D10 M10 C10 T10 B10
      rename World => W
      obtain ⟨i, rfl, hi, D1, M1, C1, T1, B1⟩ := hrel
      by_cases hlt : i < 4
      · have hlti : (i : Int) < 4 := by omega
        have hir : 0 ≤ (i : Int) ∧ (i : Int) < 64 := by omega
        have rC : C.read (i : Int) = ((D.fs (i : Int)).1, 0) := by rw [read_on C _ hir HCO.out, HC.out]
        have rF := read_on F (i : Int) hir HFO.out
        have rE := read_on E8 (i : Int) hir HEON.out
        obtain ⟨f1, f2, f3⟩ := HFIN.out (i : Int)
        obtain ⟨a, ha⟩ : ∃ a, (D.fs (i : Int)).1 = a := ⟨_, rfl⟩
        obtain ⟨b, hb⟩ : ∃ b, (F.fs (i : Int)).1 = b := ⟨_, rfl⟩
        obtain ⟨al, hal⟩ : ∃ a, (E8.fs (i : Int)).1 = a := ⟨_, rfl⟩
        rw [ha] at rC f1 f3
        rw [hb] at rF f1 f2 f3
        rw [hal] at rE f2
        obtain ⟨na, hna⟩ : ∃ n, a.length = n := ⟨_, rfl⟩
        obtain ⟨nb, hnb⟩ : ∃ n, b.length = n := ⟨_, rfl⟩
        obtain ⟨nl, hnl⟩ : ∃ n, al.length = n := ⟨_, rfl⟩
        rw [hna] at f1 f3
        rw [hnb] at f1 f2
        rw [hnl] at f2
        have h1 := dread W (i : Int) C1
        rw [rC] at h1
        have HC1 := Bx.mk h1
        have HRF := Bx.mk rF
        have HRE := Bx.mk rE
        have HF3 := Bx.mk f3
        have HA := Bx.mk ha
        have HNA := Bx.mk hna
        have HNB := Bx.mk hnb
        have HNL := Bx.mk hnl
        clear h1 rC rF rE f3 ha hb hal hna hnb hnl
        go_wp2_with fail
        refine HC1.out.mono ?_
        rintro e w11 ⟨v11, rfl, O11, B11⟩
        replace O11 : w11.ownsRow W.heap.size 5 1 v11 a.length (a.map vB) := O11
        rw [HNA.out] at O11
        obtain ⟨a11, c11, rfl⟩ := own_isSlice O11
        have h2 := dread w11 (i : Int) (D1.later B11)
        rw [HRF.out] at h2
        have HC2 := Bx.mk h2
        have B11' := bel B1 B11
        clear h2
        go_wp2_with fail
        refine HC2.out.mono ?_
        rintro e w12 ⟨v12, rfl, O12, B12⟩
        replace O12 : w12.ownsRow w11.heap.size 5 1 v12 b.length (b.map vB) := O12
        rw [HNB.out] at O12
        obtain ⟨a12, c12, rfl⟩ := own_isSlice O12
        have B12' := bel B11' B12
        have BW := bel B11 B12
        have D12 := D1.later BW
        have M12 := M1.later BW
        have C12 := C1.later BW
        have T12 := T1.later BW
        have P11 := own_below O11 B12
        have hcb : nb ≤ c12 := by
          obtain ⟨_, _, e, h, _⟩ := (Rv.of_own O12).opened
          cases e
          exact h
        have M12' := M12
        obtain ⟨gB, gF, vs, pl, hm, _, _⟩ := M12'
        obtain ⟨ar, cr, _, hci, hrow, _⟩ := hm.at (show i < 64 by omega)
        rw [HA.out, HNA.out] at hci hrow
        have m1 := hm.c1
        have RC := rv_cut (Rv.of_own O12) na f1
        rw [HF3.out] at RC
        have hnab : (na : Int) ≤ (nb : Int) := by omega
        have hnac : (na : Int) ≤ (c12 : Int) := by omega
        have hnot : ¬ (nb : Int) < (na : Int) := by omega
        have HRC := Bx.mk RC
        clear D1 M1 C1 T1 B1 O11 O12 B11 B11' B12 BW RC hm
        go_wp2_with fail
        refine (sameBytes_refl _ _ a w12 (by rw [HNA.out]; exact Rv.of_own P11) (by rw [HNA.out]; exact Rv.of_own hrow)).mono ?_
        rintro e w13 ⟨rfl, n13, rfl⟩
        have B13 := belD (Below.refl w12.heap.size w12) n13
        have D13 := D12.later B13
        have M13 := M12.later B13
        have C13 := C12.later B13
        have T13 := T12.later B13
        have R13 := HRC.out.below B13
        have P13 := own_below P11 B13
        have B13' := bel B12' B13
        generalize w12.drewN n13 = w13 at D13 M13 C13 T13 R13 P13 B13' ⊢
        clear D12 M12 C12 T12 B12' hci hrow m1 HRC P11 B13
        go_wp2_with fail
        refine (sameBytes_refl _ _ a w13 (by rw [HNA.out]; exact R13) (by rw [HNA.out]; exact Rv.of_own P13)).mono ?_
        rintro e w14 ⟨rfl, n14, rfl⟩
        have B14 := belD (Below.refl w13.heap.size w13) n14
        have D14 := D13.later B14
        have M14 := M13.later B14
        have C14 := C13.later B14
        have T14 := T13.later B14
        have B14' := bel B13' B14
        generalize w13.drewN n14 = w14 at D14 M14 C14 T14 B14' ⊢
        have h3 := dread w14 (i : Int) T14
        rw [HRE.out] at h3
        have HC3 := Bx.mk h3
        clear h3 D13 M13 C13 T13 B13' R13 P13 B14
        go_wp2_with fail
        refine HC3.out.mono ?_
        rintro e w15 ⟨v15, rfl, O15, B15⟩
        replace O15 : w15.ownsRow w14.heap.size 5 1 v15 al.length (al.map vB) := O15
        rw [HNL.out] at O15
        obtain ⟨a15, c15, rfl⟩ := own_isSlice O15
        have D15 := D14.later B15
        have M15 := M14.later B15
        have C15 := C14.later B15
        have T15 := T14.later B15
        have B15' := bel B14' B15
        have hnot2 : ¬ (nl : Int) < (nb : Int) := by omega
        clear D14 M14 C14 T14 B14' B15 O15
        go_wp2_with fail
        go_roundw
        case rel => exact ⟨i + 1, by simp, hlt, D15, M15, C15, T15, B15'⟩
        case measure => simp [intOf]; omega
      · clear D1 M1 C1 T1
        go_wp2_with fail
        refine (lives30_any _).mono ?_
        rintro e w11 ⟨rfl, B11⟩
        have B11' := bel B1 B11
        go_wp2_with fail
        go_ret
        exact ⟨rfl, B11'⟩
  · have hs1 : E.sync = (19, E) := by
      unfold Dk.sync
      rw [HAO.out]
      rfl
    rw [hs1] at hsy
    have HSY := Bx.mk hsy
    clear hs1 hsy M3
    go_wp2_with fail
    refine HSY.out.mono ?_
    rintro e w4 ⟨rfl, D4, S4⟩
    have B4 := B3.trans (S4.toBelow B3.size lX)
    clear HSY S4 B3 D3
    go_wp2_with fail
    refine (lives30_any _).mono ?_
    rintro e w11 ⟨rfl, B11⟩
    have B11' := bel B4 B11
    go_wp2_with fail
    go_ret
    exact ⟨rfl, B11'⟩
end Go.Proofs.Ytmofakcpldbbmaa
