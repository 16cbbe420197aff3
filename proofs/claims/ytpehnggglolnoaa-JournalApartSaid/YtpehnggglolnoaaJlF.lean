/- The law JournalFull. -/
import Derived.Test.YtpehnggglolnoaaJlI
namespace Go.Proofs.Ytpehnggglolnoaa
open Go.RowKit

section
variable {w0 w w' : World} {p q : Nat} {f : Int} {g : Lg} {X : Nat → Prop} {D : Dk} {base : Nat} {v : Value} {us : List Value} {L : List (List UInt8)} {row : Option Nat}
theorem JL.grown (h : JL w0 w p q X D f g) (hg : w.grownBy w' row) (hr : ∀ c, row = some c → w0.heap.size ≤ c ∧ ¬ X c ∧ c ≠ q) : JL w0 w' p q X D f g := by
  obtain ⟨⟨⟨mb, F, ks, hD⟩, hlo, hbe⟩, hlg, hq, hn⟩ := h
  have hX := hD.xl
  exact ⟨⟨⟨mb, F, ks, hD.kept hg.size (fun b hb => hg.block b (hX b hb) (fun e => (hr b e.symm).2.1 hb))⟩, hlo, hbe.grown hg hbe.size (fun c e => (hr c e).1)⟩, ⟨(hg.block q hlg.lt (fun e => (hr q e.symm).2.2 rfl)).trans hlg.blk⟩, hq, hn⟩
theorem LsX.grown (h : LsX w X base v us L) (hg : w.grownBy w' row) (hr : ∀ c, row = some c → v.ownBlock ≠ some c ∧ ∀ u ∈ us, u.ownBlock ≠ some c) : LsX w' X base v us L := by
  refine ⟨⟨ownGrown0 h.o.own hg (fun c hc e => (hr c e).1 hc), h.o.one, fun i hi u hu => ?_, fun u hu => (h.o.low u hu).mono hg.size, h.o.far⟩, h.off, h.offs⟩
  refine rv_grown (h.o.rd i hi u hu) hg ?_
  rcases hq : row with _ | c
  · exact .inl rfl
  · exact .inr (fun e => (hr c hq).2 u (List.mem_of_getElem? hu) e.symm)
theorem LsX.app (h : LsX w X base v us L) (hX : ∀ b, X b → b < w.heap.size) {y v' : Value} {x : List UInt8} (hy : Rv w y x.length (x.map vB)) (h1 : y.oneCell' = true) (hl : Low w.heap.size y) (hyX : Off y X) (hf : ∀ c, y.ownBlock = some c → v.ownBlock ≠ some c)
    {n : Nat} {xs : List Value} (hn : n = L.length + 1) (hxs : xs = us ++ [y]) (hown : w'.ownsRow base 49 1 v' n xs) (hg : w.grownBy w' v.ownBlock) (hs : SameOrNew w v v') : LsX w' X base v' (us ++ [y]) (L ++ [x]) := by
  refine ⟨h.o.app hy h1 hl hf hn hxs hown hg hs, fun b hb hx => ?_, fun u hu b hb hx => ?_⟩
  · rcases hs with hs | hs
    · exact h.off b (hs ▸ hb) hx
    · have := hs b hb
      have := hX b hx
      omega
  · rcases List.mem_append.1 hu with hu | hu
    · exact h.offs u hu b hb hx
    · rw [List.mem_singleton.1 hu] at hb
      exact hyX b hb hx
end
theorem cell_step {w w' : World} {X X' : Nat → Prop} {b i : Nat} {u : Value} (hc : w.cell? ⟨b, i, none⟩ = some u) (S : DStep X X' w w') (hb : ¬ X b) : w'.cell? ⟨b, i, none⟩ = some u := by
  have := S.block b (World.block_lt_of_cell? _ _ hc) hb
  unfold World.cell? at hc ⊢
  rw [this]
  exact hc
theorem LsX.get {w : World} {X : Nat → Prop} {base : Nat} {v : Value} {us : List Value} {L : List (List UInt8)} (h : LsX w X base v us L) (i : Nat) (hi : i < L.length) :
    ∃ b cap u, v = .slice (some ⟨b, 0, none⟩) L.length cap ∧ u ∈ us ∧ w.cell? ⟨b, i, none⟩ = some u ∧ Rv w u L[i].length (L[i].map vB) := by
  have hl := h.o.len
  obtain ⟨n, hn⟩ : ∃ n, L.length = n + 1 := ⟨L.length - 1, by omega⟩
  have hown := h.o.own
  rw [hn] at hown
  obtain ⟨g, cap, e, _, _, hcell, _⟩ := own_open hown
  have hu : us[i]? = some us[i] := List.getElem?_eq_getElem (by omega)
  refine ⟨g, cap, us[i], by rw [e, hn], List.getElem_mem _, ?_, h.o.rd i hi _ hu⟩
  rw [hcell i (by omega), hu]
theorem rv_zeros0 (W : World) (g n : Nat) (hn : n ≤ maxLen) (h : W.heap[g]? = some (.cells (madeCells #[.int .u8 0] n) 5 (0, 0))) : Rv W (.slice (some ⟨g, 0, none⟩) n n) n ((List.replicate n (0 : UInt8)).map vB) :=
  Rv.of_cells (Nat.le_refl _) hn (fun i u hu => by
    have hl := toList_madeCells_one (.int .u8 0) n
    unfold World.cell?
    rw [h]
    simp only [List.map_replicate] at hu
    have e : vB 0 = .int .u8 0 := rfl
    rw [e, ← hl, Array.getElem?_toList] at hu
    simpa using hu)
/-- A log of small records on a disk of room k. -/
structure Fil (D : Dk) (k : Nat) (K : List (List UInt8)) : Prop where
  ok : LogOk D 63 K
  room : D.room = k
  small : ∀ y ∈ K, y.length ≤ 10

set_option linter.unusedSimpArgs false in
set_option maxRecDepth 20000 in
set_option maxHeartbeats 1000000 in
theorem law_JournalFull (v : Value) (room : Int) (l : List Int) (w : World) (hr : -9223372036854775808 ≤ room ∧ room ≤ 9223372036854775807) (hv : Rv w v l.length (l.map (Value.int .i64))) (hx : ∀ x ∈ l, -9223372036854775808 ≤ x ∧ x ≤ 9223372036854775807) :
    Calls Try.prog 7 #[.int .i64 room, v] w (RetT w) := by
  obtain ⟨av, cv, rfl⟩ := rv_slice hv
  have HX := Bx.mk hx
  have HR := Bx.mk hr
  clear hx hr
  go_enter Try.func7, Try.ntmps7
  go_wp2_with fail
  refine (around_nat room 120 (by decide) HR.out.1 HR.out.2 (by decide) w).mono ?_
  rintro e w1 ⟨k, hk, _, rfl, rfl⟩
  go_wp2_with fail
  refine (fresh_any w (k : Int) (by omega) (by omega)).mono ?_
  rintro e w1 ⟨p, X, rfl, D1, lX, B1⟩
  have J1 : JS w w1 p X (newD (k : Int)) := ⟨D1, lX, B1⟩
  obtain ⟨E, hE, F0, F1, F2, _⟩ := logOpen_all (newD_okk (k : Int) (by omega) (by omega)) (newD_log (k : Int) 63) (by decide)
  clear D1 lX B1 HR
  go_wp2_with fail
  refine (jopen J1 63 hE).mono ?_
  rintro e w2 ⟨q, v2, us2, X2, rfl, J2, hq2, S2, L2⟩
  change JL w w2 p q X2 E 63 ⟨0, false⟩ at J2
  obtain ⟨k2, a2, c2, rfl⟩ := own_shape L2.o.own
  obtain rfl : k2 = 0 := own_k L2.o.own
  have hq := J2.lg.lt
  clear L2 S2 J1 hE hq2
  go_wp2_with fail
  refine (records_anyG _ l w2 (hv.below J2.js.be) HX.out).mono ?_
  rintro e w3 ⟨v3, us3, rfl, L3, U3, B3⟩
  have J3 := J2.later B3
  have L3 := LsX.of (X := fun b => X2 b ∨ b = q) L3 (Nat.le_refl _) U3 (fun b hb => hb.elim (J2.js.d.xl b) (fun e => e ▸ J2.lg.lt))
  obtain ⟨x, hx⟩ : ∃ x, recM l = x := ⟨_, rfl⟩
  have hxl := recM_len l
  have hxm := recM_mem l
  rw [hx] at L3 hxl hxm
  obtain ⟨k3, a3, c3, rfl⟩ := own_shape L3.o.own
  obtain rfl : k3 = x.length := own_k L3.o.own
  have HXM := Bx.mk hxm
  have low3 : ∀ u ∈ us3, Low w3.heap.size u := L3.o.low
  have vlow3 : ∀ c, (Value.slice a3 x.length c3).ownBlock = some c → c < w3.heap.size := fun c hc => (L3.o.own.lt c hc).2
  have LK : LsX w3 (fun b => X2 b ∨ b = q) w3.heap.size (.slice none 0 0) [] [] := ⟨LsO.nil _ _, (fun _ hb => by cases hb), (fun _ hu => by cases hu)⟩
  have hw3 : w.heap.size ≤ w3.heap.size := J3.js.be.size
  clear U3 B3 J2 hx hxm hq HX
  go_wp2_with fail
  go_loopw [11, 12] (fun kv iv W => ∃ (i : Nat) (D : Dk) (X : Nat → Prop) (K : List (List UInt8)) (ks : List Value), iv = .int .i64 (i : Int) ∧ i ≤ x.length ∧ K.length ≤ i ∧ JL w W p q X D 63 ⟨K.length, false⟩ ∧ Bx (Fil D k K) ∧ LsX W (fun b => X b ∨ b = q) w2.heap.size (.slice a3 x.length c3) us3 x ∧ LsX W (fun b => X b ∨ b = q) w3.heap.size kv ks K ∧ w3.heap.size ≤ W.heap.size) (fun _ iv _ => x.length - (intOf iv).toNat)
  case atStart => exact ⟨0, E, X2, [], [], rfl, Nat.zero_le _, Nat.le_refl _, J3, ⟨⟨F0, F1, (fun _ hy => by cases hy)⟩⟩, L3, LK, Nat.le_refl _⟩
  case round =>
    clear J3 L3 F0 F1 F2 LK
    rename World => W
    obtain ⟨i, D, X, K, ks, rfl, hi, hKi, J3, F3, L3, LK, hsz⟩ := hrel
    by_cases hlt : i < x.length
    · obtain ⟨b4, c4, u4, e4, hu4, hc4, R4⟩ := L3.get i hlt
      cases e4
      obtain ⟨y, hy⟩ : ∃ y, x[i] = y := ⟨_, rfl⟩
      have hyl : y.length ≤ 10 := by rw [← hy]; exact HXM.out _ (List.getElem_mem _)
      rw [hy] at R4
      obtain ⟨au, cu, eu⟩ := rv_slice R4
      subst eu
      obtain ⟨n, hn⟩ : ∃ n, D.used = n := ⟨_, rfl⟩
      have hnk : n ≤ k := by
        have h1 := J3.js.d.ok.used
        rw [hn, F3.out.room] at h1
        omega
      have hdu := dused W J3.js.d
      rw [hn] at hdu
      have HDU := Bx.mk hdu
      clear hy hdu
      have hlow4 := low3 _ hu4
      have hone4 := L3.o.one _ hu4
      have hoff4 := L3.offs _ hu4
      have hfl := frameM_lens (K.length : Int) y
      have hfr := fun W' hW => frame_any (.slice au y.length cu) y (K.length : Int) W' hW (by omega) (by omega)
      obtain ⟨F, hF⟩ : ∃ F, frameM (K.length : Int) y = F := ⟨_, rfl⟩
      rw [hF] at hfl hfr
      have HFR := Bx.mk hfr
      have hfl50 : F.length ≤ 50 := by omega
      have hKl : K.length ≤ 6 := by omega
      obtain ⟨kK, ak, ck, rfl⟩ := own_shape LK.o.own
      obtain rfl : kK = K.length := own_k LK.o.own
      have hfit : D.used + (frameM (K.length : Int) y).length ≤ k → ∃ E, D.logApp 63 ⟨K.length, false⟩ y = (0, E, ⟨K.length + 1, false⟩) ∧ Fil E k (K ++ [y]) ∧ E.used = n + F.length := fun h => by
        obtain ⟨E, h1, h2, h3, h4, _⟩ := logApp_ok F3.out.ok (by decide) y (by omega) (by rw [F3.out.room]; omega)
        exact ⟨E, h1, ⟨h2, h3.trans F3.out.room, fun z hz => (List.mem_append.1 hz).elim (F3.out.small z) (fun h => by rw [List.mem_singleton.1 h]; exact hyl)⟩, by rw [h4, hn, hF]⟩
      have hfull : ¬ D.used + (frameM (K.length : Int) y).length ≤ k → D.logApp 63 ⟨K.length, false⟩ y = (18, D, ⟨K.length, false⟩) := fun h =>
        logApp_full F3.out.ok (by decide) y (by omega) (by rw [F3.out.room]; omega)
      rw [hn, hF] at hfit hfull
      have HFIT := Bx.mk hfit
      have HFULL := Bx.mk hfull
      have HN := Bx.mk hn
      clear hfr hfit hfull hF hfl hn hu4
      go_wp2_with fail
      refine HDU.out.mono ?_
      rintro e w4 ⟨rfl, n4, h4⟩
      have B4 : Below W.heap.size W w4 := by rw [h4]; exact belD (Below.refl _ _) _
      have J4 := J3.later B4
      have L4 := L3.later B4
      have LK4 := LK.later B4
      have R4 := R4.below B4
      have hc4 := (B4.cell (p := ⟨b4, i, none⟩) (World.block_lt_of_cell? _ _ hc4)).trans hc4
      have hsz4 := Nat.le_trans hsz B4.size
      clear h4 B4 J3 L3 LK hsz HDU
      go_wp2_with fail
      refine (HFR.out _ R4).mono ?_
      rintro e w5 ⟨v5, rfl, M5⟩
      have B5 := M5.2
      have O5 := M5.1
      rw [List.length_map] at O5
      obtain ⟨a5, c5, rfl⟩ := own_isSlice O5
      have J5 := J4.later B5
      have L5 := L4.later B5
      have LK5 := LK4.later B5
      have R5 := R4.below B5
      have hc5 := (B5.cell (p := ⟨b4, i, none⟩) (World.block_lt_of_cell? _ _ hc4)).trans hc4
      have hsz5 := Nat.le_trans hsz4 B5.size
      clear B5 M5 O5 J4 L4 LK4 R4 hc4 hsz4 HFR
      by_cases hfits : n + F.length ≤ k
      · obtain ⟨E5, h5, F5, U5⟩ := HFIT.out hfits
        have F5 := Bx.mk F5
        have HU5 := Bx.mk U5
        clear HFIT HFULL U5
        go_wp2_with fail
        refine (jappend J5 _ y R5 (by omega) (by show K.length ≤ _; omega) h5).mono ?_
        rintro e w6 ⟨rfl, X6, J6, S6⟩
        have L6 := L5.step S6
        have LK6 := LK5.step S6
        have hsz6 := Nat.le_trans hsz5 S6.size
        have hoff6 : Off (.slice au y.length cu) (fun b => X6 b ∨ b = q) := fun b hb hx => (S6.grow b hx).elim (hoff4 b hb) (fun h => by have := hlow4 b hb; omega)
        have R6 := rv_step R5 S6 hoff4
        have hc6 := cell_step hc5 S6 (L5.off b4 rfl)
        clear J5 L5 LK5 R5 hc5 S6 h5 hsz5 hoff4
        have hdu := dused w6 J6.js.d
        rw [HU5.out] at hdu
        have HDU := Bx.mk hdu
        have hpush : ((n + F.length : Nat) : Int) = (n : Int) + (F.length : Int) := by omega
        clear hdu HU5
        rw [hpush] at HDU
        go_wp2_with fail
        refine HDU.out.mono ?_
        rintro e w7 ⟨rfl, n7, h7⟩
        have B7 : Below w6.heap.size w6 w7 := by rw [h7]; exact belD (Below.refl _ _) _
        have BA := B7.alloc B7.size (.cells #[.slice au y.length cu] 49)
        have J7 := J6.later BA
        have L7 := L6.later BA
        have LK7 := LK6.later BA
        have R7 := R6.below BA
        have hc7 := (B7.cell (p := ⟨b4, i, none⟩) (World.block_lt_of_cell? _ _ hc6)).trans hc6
        have hsz7 := Nat.le_trans hsz6 BA.size
        clear h7 J6 L6 LK6 R6 hc6 hsz6 HDU
        go_wp2_with (at_builtin; go_loud (refine wpList_app2 _ rfl _ _ rfl Try.elS w3.heap.size (.slice ak K.length ck) K.length ks rfl LK7.o.own (.slice (some ⟨w7.heap.size, 0, none⟩) 1 1) 1 [.slice au y.length cu] rfl (rv_litH _ [_] _ 1 (by unfold maxLen; omega) _ (by simp)) rfl (ones1 _ hone4) (by omega) hsz7 ?_; intro v8 w8 hown8 hg8 hs8; refine later ?_))
        refine Later.in ?_
        have hfar : ∀ c, (Value.slice au y.length cu).ownBlock = some c → (Value.slice ak K.length ck).ownBlock ≠ some c := fun c hc e => by
          have h1 := hlow4 c hc
          have h2 := (LK7.o.own.lt c e).1
          omega
        have LK8 := LK7.app (fun b hb => hb.elim (J7.js.d.xl b) (fun e => e ▸ J7.lg.lt)) R7 hone4 (fun c hc => Nat.lt_of_lt_of_le (hlow4 c hc) hsz7) hoff6 hfar rfl rfl hown8 hg8 hs8
        have hrow : ∀ c, (Value.slice ak K.length ck).ownBlock = some c → w3.heap.size ≤ c := fun c hc => (LK7.o.own.lt c hc).1
        have J8 := J7.grown hg8 (fun c hc => ⟨Nat.le_trans hw3 (hrow c hc), fun hx => LK7.off c hc (.inl hx), fun e => LK7.off c hc (.inr e)⟩)
        have L8 := L7.grown hg8 (fun c hc => ⟨fun e => by have := vlow3 c e; have := hrow c hc; omega, fun u hu e => by have := low3 u hu c e; have := hrow c hc; omega⟩)
        have hsz8 := Nat.le_trans hsz7 hg8.size
        obtain ⟨k8, a8, c8, rfl⟩ := own_shape hown8
        obtain rfl : k8 = K.length + 1 := own_k hown8
        clear J7 L7 LK7 R7 hc7 hsz7 hown8 hg8 hs8 BA B7 hone4 hlow4 hoff6 hfar hrow
        go_wp2_with fail
        refine (llen_any w8 J8.lg).mono ?_
        rintro e w9 ⟨rfl, n9, h9⟩
        have B9 : Below w8.heap.size w8 w9 := by rw [h9]; exact belD (Below.refl _ _) _
        have J9 := J8.later B9
        have L9 := L8.later B9
        have LK9 := LK8.later B9
        have hsz9 := Nat.le_trans hsz8 B9.size
        clear h9 B9 J8 L8 LK8 hsz8
        go_wp2_with fail
        refine (lup_any w9 J9.lg).mono ?_
        rintro e w10 ⟨rfl, n10, h10⟩
        have B10 : Below w9.heap.size w9 w10 := by rw [h10]; exact belD (Below.refl _ _) _
        have J10 := J9.later B10
        have L10 := L9.later B10
        have LK10 := LK9.later B10
        have hsz10 := Nat.le_trans hsz9 B10.size
        have hlen : (K ++ [y]).length = K.length + 1 := by simp
        rw [← hlen] at J10
        clear h10 B10 J9 L9 LK9 hsz9
        go_wp2_with fail
        go_roundw
        case rel => exact ⟨i + 1, E5, X6, K ++ [y], _, by go_num, by omega, by rw [hlen]; omega, J10, F5, L10, LK10, hsz10⟩
        case measure => simp [intOf]; omega
      · have h5 := HFULL.out hfits
        have HN2 := HN
        clear HFIT HFULL
        go_wp2_with fail
        refine (jappend J5 _ y R5 (by omega) (by show K.length ≤ _; omega) h5).mono ?_
        rintro e w6 ⟨rfl, X6, J6, S6⟩
        have L6 := L5.step S6
        have LK6 := LK5.step S6
        have hsz6 := Nat.le_trans hsz5 S6.size
        clear J5 L5 LK5 R5 hc5 S6 h5 hsz5 hoff4
        have hdu := dused w6 J6.js.d
        rw [HN.out] at hdu
        have HDU := Bx.mk hdu
        clear hdu HN HN2
        go_wp2_with fail
        refine HDU.out.mono ?_
        rintro e w7 ⟨rfl, n7, h7⟩
        have B7 : Below w6.heap.size w6 w7 := by rw [h7]; exact belD (Below.refl _ _) _
        have J7 := J6.later B7
        have L7 := L6.later B7
        have LK7 := LK6.later B7
        have hsz7 := Nat.le_trans hsz6 B7.size
        clear h7 B7 J6 L6 LK6 hsz6 HDU
        go_wp2_with fail
        refine (llen_any w7 J7.lg).mono ?_
        rintro e w9 ⟨rfl, n9, h9⟩
        have B9 : Below w7.heap.size w7 w9 := by rw [h9]; exact belD (Below.refl _ _) _
        have J9 := J7.later B9
        have L9 := L7.later B9
        have LK9 := LK7.later B9
        have hsz9 := Nat.le_trans hsz7 B9.size
        clear h9 B9 J7 L7 LK7 hsz7
        go_wp2_with fail
        refine (lup_any w9 J9.lg).mono ?_
        rintro e w10 ⟨rfl, n10, h10⟩
        have B10 : Below w9.heap.size w9 w10 := by rw [h10]; exact belD (Below.refl _ _) _
        have J10 := J9.later B10
        have L10 := L9.later B10
        have LK10 := LK9.later B10
        have hsz10 := Nat.le_trans hsz9 B10.size
        clear h10 B10 J9 L9 LK9 hsz9
        go_wp2_with fail
        go_roundw
        case rel => exact ⟨i + 1, D, X6, K, ks, by go_num, by omega, by omega, J10, F3, L10, LK10, hsz10⟩
        case measure => simp [intOf]; omega
    · obtain rfl : i = x.length := by omega
      obtain ⟨kK, ak, ck, rfl⟩ := own_shape LK.o.own
      obtain rfl : kK = K.length := own_k LK.o.own
      obtain ⟨E5, h5, F5, _⟩ := logOpen_all J3.js.d.ok F3.out.ok (by decide)
      have hKl : K.length ≤ 6 := by omega
      clear F3 L3 hsz
      go_wp2_with fail
      refine (jopen J3.js 63 h5).mono ?_
      rintro e w6 ⟨q6, v6, us6, X6, rfl, J6, hq6, S6, L6⟩
      have LK6 := LK.step (S6.wide fun b => b = q)
      have J0 : JL w w6 p q X6 E5 63 ⟨K.length, false⟩ := ⟨J6.js, J3.lg.step S6 J3.nq, J3.qlo, fun hx => (S6.grow q hx).elim J3.nq (fun h1 => by have := J3.lg.lt; omega)⟩
      obtain ⟨k6, a6, c6, rfl⟩ := own_shape L6.o.own
      obtain rfl : k6 = K.length := own_k L6.o.own
      clear J3 LK S6 J6 h5 hq6
      go_wp2_with fail
      refine (open_nil 0 w6).mono ?_
      rintro e w7 ⟨rfl, rfl⟩
      go_wp2_with fail
      refine (open_bad w6 64 J0.js.d (logOpen_bad E5 (by decide)) (by decide)).mono ?_
      rintro e w7 ⟨X7, rfl, D7, S7⟩
      have J7 := J0.step D7 S7
      have L7 := L6.less (X' := X6) (fun b hb => .inl hb)
      have L7 := L7.step S7
      have LK7 := LK6.step (S7.wide fun b => b = q)
      have HS := Bx.mk (sameLists_refl (.slice a6 K.length c6) (.slice ak K.length ck) K w7 L7.ls LK7.ls)
      clear J0 L6 LK6 D7 S7 L7 LK7
      obtain ⟨Z, hZ⟩ : ∃ Z : Obj, Z = .cells (madeCells #[.int .u8 0] 65537) 5 := ⟨_, rfl⟩
      have hmk : ∀ W : World, (Instr.makeSlice 49 (.int .i64 65537) (.int .i64 65537)).run Try.prog W = .ok (.slice (some ⟨W.heap.size, 0, none⟩) 65537 65537) (W.alloc Z) := fun W => by
        obtain ⟨i, hi, hz, hsz, hby⟩ := info_parts Try.infoB
        have h := run_make (P := Try.prog) W 49 5 i _ Try.underlying49 hi hz .i64 .i64 65537 65537 (by omega) (Int.le_refl _) (by rw [hby]; omega) (by omega)
        rw [hsz, show ((65537 : Int)).toNat = 65537 from rfl] at h
        rw [hZ]
        simpa [Value.cells] using h
      go_wp2_with fail
      refine HS.out.mono ?_
      rintro e w8 ⟨rfl, n8, h8⟩
      have B8 : Below w7.heap.size w7 w8 := by rw [h8]; exact belD (Below.refl _ _) _
      have J8 := J7.later B8
      clear h8 B8 J7 HS
      go_wp2_with fail
      have BA := (Below.refl w8.heap.size w8).alloc (Nat.le_refl _) (.cells (madeCells #[.int .u8 0] 65537) 5)
      have RZ := rv_zeros0 (w8.alloc (.cells (madeCells #[.int .u8 0] 65537) 5)) w8.heap.size 65537 (by unfold maxLen; omega) (World.alloc_heap_new w8 _)
      have J9 := J8.later BA
      obtain ⟨zs, hzs⟩ : ∃ z, List.replicate 65537 (0 : UInt8) = z := ⟨_, rfl⟩
      have hzl : zs.length = 65537 := by rw [← hzs, List.length_replicate]
      rw [hzs] at RZ
      have RZ2 : Rv (w8.alloc (.cells (madeCells #[.int .u8 0] 65537) 5)) (.slice (some ⟨w8.heap.size, 0, none⟩) 65537 65537) zs.length (zs.map vB) := by rw [hzl]; exact RZ
      refine (jappend J9 _ zs RZ2 (by omega) (by show K.length ≤ _; omega) (logApp_long _ _ _ _ (by omega))).mono ?_
      rintro e w9 ⟨rfl, X9, J10, _⟩
      have B10 := J10.js.be
      clear J8 J9 RZ RZ2 hzs hzl J10 BA hmk hZ
      go_wp2_with fail
      refine (lives31_any w9).mono ?_
      rintro e w15 ⟨rfl, B15⟩
      go_wp2_with fail
      go_ret
      exact ⟨rfl, bel B10 B15⟩
end Go.Proofs.Ytpehnggglolnoaa
