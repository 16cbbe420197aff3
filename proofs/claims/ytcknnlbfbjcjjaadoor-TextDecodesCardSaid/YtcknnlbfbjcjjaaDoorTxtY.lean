/- The model of package text: Decode. -/
import Derived.Test.YtcknnlbfbjcjjaaDoorTxtX
import Derived.Test.YtcknnlbfbjcjjaaDoorTxtW
import Derived.Deep.RegionHeld3
import Derived.Test.YtcknnlbfbjcjjaaDoorTake
namespace Go.Proofs.YtcknnlbfbjcjjaaDoor
open Go.RowKit

/-- The first k bytes are the encoding of their number. -/
def goodM (runes : Bool) (k : Nat) (b : List UInt8) : Prop := symB runes (numM k b) = true ∧ begM b (oneM runes (numM k b).toNat) = true ∧ (oneM runes (numM k b).toNat).length = k
theorem good_next {runes : Bool} {k : Nat} {b : List UInt8} (h : goodM runes k b) : nextM runes b = (numM k b, (k : Int)) := by
  obtain ⟨h1, h2, h3⟩ := h
  obtain ⟨n, hn⟩ := Int.eq_ofNat_of_zero_le (symB_nat h1).1
  rw [hn] at h1 h2 h3 ⊢
  rw [Int.toNat_natCast] at h2 h3
  obtain ⟨rest, rfl⟩ := of_decide_eq_true (show decide (oneM runes n <+: b) = true from h2)
  rw [next_one runes n h1 rest, h3]
theorem numM_one (runes : Bool) (n : Nat) (h : symB runes (n : Int) = true) (rest : List UInt8) : numM (oneM runes n).length (oneM runes n ++ rest) = (n : Int) := by
  have hs := symB_nat h
  cases runes
  · have := hs.2.2 rfl
    show numM 1 (UInt8.ofNat n :: rest) = _
    unfold numM
    rw [numL_one, List.headD_cons, ofN n (by omega)]
    simp [leadM]
  by_cases h0 : n < 128
  · rw [one0 n h0]
    show numM 1 (UInt8.ofNat n :: rest) = _
    unfold numM
    rw [numL_one, List.headD_cons, ofN n (by omega)]
    simp [leadM]
  by_cases h1 : n < 2048
  · rw [one1 n h0 h1]
    simp [numM, leadM, numL, numS]
    omega
  by_cases h2 : n < 65536
  · rw [one2 n h1 h2]
    simp [numM, leadM, numL, numS]
    omega
  · rw [one3 n h2]
    simp [numM, leadM, numL, numS]
    omega
theorem next_good {runes : Bool} {b : List UInt8} (hb : 0 < b.length) (h : (nextM runes b).2 ≠ 0) : ∃ k, 1 ≤ k ∧ k ≤ 4 ∧ k ≤ b.length ∧ goodM runes k b := by
  obtain ⟨n, hs, hn, hd⟩ := next_inv runes b hb h
  have h1 := oneM_pos runes n
  have h2 := oneM_len runes n
  have h3 := congrArg List.length hd
  rw [List.length_append] at h3
  have h4 := numM_one runes n hs (b.drop (oneM runes n).length)
  rw [← hd] at h4
  refine ⟨(oneM runes n).length, h1, h2, by omega, ?_⟩
  unfold goodM
  rw [h4, Int.toNat_natCast]
  exact ⟨hs, decide_eq_true ⟨_, hd.symm⟩, rfl⟩
theorem symsM_all (runes : Bool) (ys : List Int) (f g : Nat) (b c : List UInt8) (h : symsM runes f b = ys ++ symsM runes g c) (hb : b.length ≤ f) (hy : ∀ y ∈ ys, 0 ≤ y) : ∀ y ∈ ys, symB runes y = true := by
  intro y hy2
  induction f generalizing b ys with
  | zero =>
    have : b = [] := List.eq_nil_of_length_eq_zero (by omega)
    subst this
    have := congrArg List.length h
    rw [List.length_append] at this
    simp only [symsM, List.length_nil] at this
    have h0 : ys = [] := List.eq_nil_of_length_eq_zero (by omega)
    subst h0
    cases hy2
  | succ f ih =>
    cases ys with
    | nil => cases hy2
    | cons z zs =>
      cases b with
      | nil => simp [symsM] at h
      | cons d ds =>
        rw [symsM] at h
        by_cases h2 : (nextM runes (d :: ds)).2 = 0
        · rw [if_pos h2, List.cons_append] at h
          have := hy z (by simp)
          injection h with h3 _
          omega
        · rw [if_neg h2, List.cons_append] at h
          injection h with h3 h4
          obtain ⟨n, hs, hn, hd⟩ := next_inv runes (d :: ds) (by simp) h2
          have hp := oneM_pos runes n
          rcases List.mem_cons.1 hy2 with rfl | hm
          · rw [← h3, hn]; exact hs
          · refine ih zs _ h4 ?_ (fun y hy' => hy y (List.mem_cons_of_mem _ hy')) hm
            rw [hn, Int.toNat_natCast, List.length_drop]
            omega

theorem own_kk2 {w : World} {a : Option Addr} {k c n : Nat} {us : List Value} (h : Rv w (.slice a k c) n us) : n = k := by
  obtain ⟨_, _, e, _⟩ := h
  cases e; rfl

set_option maxRecDepth 20000 in
set_option maxHeartbeats 8000000 in
theorem rdecode_any (v : Value) (bs : List UInt8) (runes : Bool) (w : World) (hv : Rv w v bs.length (bs.map vB)) (hl : bs.length ≤ 60000) :
    Calls Tryd.prog 16 #[v, .bool runes] w (DePost w (decE (decM runes bs)) (decL (decM runes bs))) := by
  obtain ⟨ao, cap, rfl, hcap, hrd⟩ := hv.opened
  have hq : ∀ ys : List Int, decM runes bs = ys → (∀ y ∈ ys, 0 ≤ y) → ys.length ≤ 65536 → decE (decM runes bs) = 0 ∧ decL (decM runes bs) = ys := by
    intro ys h h1 h2
    rw [h]
    have : decE ys = 0 := by unfold decE; rw [if_pos h1, if_pos h2]
    exact ⟨this, by unfold decL; rw [if_pos this]⟩
  have hq2 : ∀ ys : List Int, decM runes bs = ys ++ [-1] → decE (decM runes bs) = 9 ∧ decL (decM runes bs) = [] := by
    intro ys h
    rw [h]
    have : decE (ys ++ [-1]) = 9 := by unfold decE; rw [if_neg (fun h => by have := h (-1) (by simp); omega)]
    exact ⟨this, by unfold decL; rw [this]; rfl⟩
  have hdm : decM runes bs = symsM runes bs.length bs := rfl
  have HQ := Lib.hid hq
  have HQ2 := Lib.hid hq2
  have HDM := Lib.hid hdm
  clear hq hq2 hdm
  generalize decE (decM runes bs) = r at *
  generalize decL (decM runes bs) = us at *
  go_enter Tryd.func16, Tryd.ntmps16
  go_wp2_with fail
  go_loopw [6, 7] (fun ov iv wr => ∃ (k f : Nat) (ys : List Int), iv = .int .i64 (k : Int) ∧ k ≤ bs.length ∧ bs.length ≤ f + k ∧ ys.length + f ≤ bs.length ∧ Hid (symsM runes bs.length bs = ys ++ symsM runes f (bs.drop k) ∧ ∀ y ∈ ys, 0 ≤ y) ∧ wr.ownsRow w.heap.size 3 1 ov ys.length (ys.map (Value.int .i64)) ∧ Below w.heap.size w wr) (fun _ iv _ => bs.length + 1 - (intOf iv).toNat)
  case atStart => exact ⟨0, bs.length, [], rfl, Nat.zero_le _, by omega, by simp, ⟨rfl, by simp⟩, World.ownsRow_nil _ _ _ _, Below.refl _ _⟩
  case round =>
    obtain ⟨k, f, ys, rfl, hk, hkf, hyf, HS, hown, hB⟩ := hrel
    obtain ⟨wo, hwo⟩ : ∃ wo : World, wo = wr := ⟨_, rfl⟩
    rw [← hwo] at hB hown
    subst hwo
    obtain ⟨kx, ax, cx, rfl⟩ := own_shape hown
    have hsz := hB.size
    by_cases hlt : k < bs.length
    · obtain ⟨g, off, rfl, hc0⟩ := hrd.cell (i := k) (u := vB bs[k]) (by simp [hlt])
      clear hc0
      have hki : (k : Int) ≤ (bs.length : Int) := by omega
      have hkj : (k : Int) ≤ (cap : Int) := by omega
      have hkc : ¬ cap = k := by omega
      have hrv : Rv wo (.slice (some ⟨g, off + k, none⟩) (bs.length - k) (cap - k)) (bs.drop k).length ((bs.drop k).map vB) := by
        rw [List.length_drop]
        obtain ⟨a2, c2, he, _, hr2⟩ := (hv.below hB).sliced 1 k bs.length hk (Nat.le_refl _)
        cases he
        rw [if_neg hkc, Nat.mul_one, Nat.mul_one] at hr2
        rw [List.map_drop]
        have e : (some (⟨g, off, none⟩ : Addr)).map (·.add k) = some ⟨g, off + k, none⟩ := by simp only [Option.map_some, Addr.add]; split <;> simp_all
        rw [e, List.take_of_length_le (by simp)] at hr2
        exact hr2
      have hld : (bs.drop k).length = bs.length - k := List.length_drop
      obtain ⟨f', rfl⟩ : ∃ f', f = f' + 1 := ⟨f - 1, by omega⟩
      have hst : symsM runes (f' + 1) (bs.drop k) = if (nextM runes (bs.drop k)).2 = 0 then [-1] else (nextM runes (bs.drop k)).1 :: symsM runes f' (bs.drop (k + (nextM runes (bs.drop k)).2.toNat)) := by
        have hdr : bs.drop k = bs[k] :: bs.drop (k + 1) := List.drop_eq_getElem_cons hlt
        rw [hdr, symsM, ← hdr, List.drop_drop]
      have HST := Lib.hid hst
      clear hst
      have hdrop : ∀ m, (bs.drop k).drop m = bs.drop (k + m) := fun m => List.drop_drop
      generalize hb : bs.drop k = b at *
      have HB0 := Lib.hid hb
      clear hb
      go_wp2_with fail
      go_loopw [6, 8, 9] (fun ov sv jv wi => ∃ (j : Nat), jv = .int .i64 (j : Int) ∧ 1 ≤ j ∧ j ≤ 5 ∧ j ≤ b.length + 1 ∧ Below w.heap.size w wi ∧
          ((sv = .int .i64 0 ∧ ov = .slice ax kx cx ∧ Below wo.heap.size wo wi ∧ Hid (∀ i, 1 ≤ i → i < j → ¬ goodM runes i b) ∧ wi.ownsRow w.heap.size 3 1 ov ys.length (ys.map (Value.int .i64))) ∨
           (2 ≤ j ∧ sv = .int .i64 ((j - 1 : Nat) : Int) ∧ Hid (goodM runes (j - 1) b) ∧ wi.ownsRow w.heap.size 3 1 ov (ys.length + 1) ((ys ++ [numM (j - 1) b]).map (Value.int .i64))))) (fun _ _ jv _ => 6 - (intOf jv).toNat)
      case atStart => exact ⟨1, rfl, by omega, by omega, by omega, hB, .inl ⟨rfl, rfl, Below.refl _ _, fun i h1 h2 => by omega, hown⟩⟩
      case round =>
        obtain ⟨j, rfl, hj1, hj5, hjb, hD, ⟨rfl, rfl, hC, HN, hown2⟩ | ⟨hj2, rfl, HG, hown2⟩⟩ := hrel
        · obtain ⟨wq, hwq⟩ : ∃ wq : World, wq = wr := ⟨_, rfl⟩
          rw [← hwq] at hC hown2 hD
          subst hwq
          by_cases hjj : j ≤ 4 ∧ j ≤ b.length
          · obtain ⟨hj4, hjl⟩ := hjj
            have hjl' : (j : Int) ≤ (bs.length : Int) - (k : Int) := by omega
            have hrq := hrv.below hC
            have hgd : goodM runes j b ↔ (symB runes (numM j b) = true ∧ begM b (oneM runes (numM j b).toNat) = true ∧ (oneM runes (numM j b).toNat).length = j) := Iff.rfl
            go_wp2_with fail
            refine (number_any _ b j _ hrq hj1 hj4 hjl).mono ?_
            rintro e w' ⟨rfl, rfl⟩
            have hjn : Hid (numM j b = numM (j + 1 - 1) b) := by show _ = _; rw [Nat.add_sub_cancel]
            generalize numM j b = N at *
            go_wp2_with fail
            refine (rsymbol_any N runes _).mono ?_
            rintro e w' ⟨rfl, rfl⟩
            generalize hsy : symB runes N = sy at *
            cases sy
            · have hng : ¬ goodM runes j b := fun h => by have := (hgd.1 h).1; cases this
              have HNG : Hid (∀ i, 1 ≤ i → i < j + 1 → ¬ goodM runes i b) := by
                intro i h1 h2
                rcases Nat.lt_or_ge i j with h | h
                · exact HN.out i h1 h
                · rwa [show i = j from by omega]
              clear hgd hng
              go_wp2_with fail
              go_quiet (fail)
              go_wp2_with fail
              go_roundw
              case rel => exact ⟨j + 1, by go_num, by omega, by omega, by omega, belD hD _, .inl ⟨rfl, rfl, belD hC _, HNG, hown2⟩⟩
              case measure => simp [intOf]; omega
            · have hsb := symB_nat hsy
              obtain ⟨n, rfl⟩ := Int.eq_ofNat_of_zero_le hsb.1
              have hn1 : n ≤ 1114111 := by have := hsb.2.1; omega
              have hn2 : runes = false → n ≤ 255 := fun h => by have := hsb.2.2 h; omega
              have hon := fun w1 => one_any n runes w1 hn2 hn1
              have hbe := fun (v1 : Value) (w1 : World) h1 h2 => begins_any (.slice (some ⟨g, off + k, none⟩) (bs.length - k) (cap - k)) v1 b (oneM runes n) w1 h1 h2
              rw [Int.toNat_natCast] at hgd
              have hol := oneM_len runes n
              generalize oneM runes n = o at *
              clear hn2 hsb
              generalize hbg : begM b o = bg at *
              have HON := Lib.hid hon
              have HBE := Lib.hid hbe
              have HSY := Lib.hid hsy
              clear hon hbe hsy hbg
              have hBr := Below.refl wq.heap.size wq
              cases bg
              · have hng : ¬ goodM runes j b := fun h => by have := (hgd.1 h).2.1; cases this
                have HNG : Hid (∀ i, 1 ≤ i → i < j + 1 → ¬ goodM runes i b) := by
                  intro i h1 h2
                  rcases Nat.lt_or_ge i j with h | h
                  · exact HN.out i h1 h
                  · rwa [show i = j from by omega]
                clear hgd hng
                go_wp2_with fail
                refine wp_region_any (by kernel_rfl) ?_
                change wpAny _ _ _ _ _ _ _ (World.drew _)
                refine wpAny_do 0 40 rfl rfl (by kernel_rfl) (by kernel_rfl) (by kernel_rfl) (fun _ _ _ _ _ h => h) (by kernel_rfl) (by intro w; go_simp; try with_reducible rfl) ?_
                simp only [List.setIfInBounds_toArray, List.set_cons_succ, List.set_cons_zero]
                refine wpAny_do 1 41 rfl rfl (by kernel_rfl) (by kernel_rfl) (by kernel_rfl) (fun _ _ _ _ _ h => h) (by kernel_rfl) (by intro w; go_simp; try with_reducible rfl) ?_
                simp only [List.setIfInBounds_toArray, List.set_cons_succ, List.set_cons_zero]
                refine wpAny_do 2 42 rfl rfl (by kernel_rfl) (by kernel_rfl) (by kernel_rfl) (fun _ _ _ _ _ h => h) (by kernel_rfl) (by intro w; go_simp; try with_reducible rfl) ?_
                simp only [List.setIfInBounds_toArray, List.set_cons_succ, List.set_cons_zero]
                refine wpAny_do 3 43 rfl rfl (by kernel_rfl) (by kernel_rfl) (by kernel_rfl) (fun _ _ _ _ _ h => h) (by kernel_rfl) (by intro w; go_simp; try with_reducible rfl) ?_
                simp only [List.setIfInBounds_toArray, List.set_cons_succ, List.set_cons_zero]
                refine wpAny_do 4 44 rfl rfl (by kernel_rfl) (by kernel_rfl) (by kernel_rfl) (fun _ _ _ _ _ h => h) (by kernel_rfl) (by intro w; go_simp; try with_reducible rfl) ?_
                simp only [List.setIfInBounds_toArray, List.set_cons_succ, List.set_cons_zero]
                refine wpAny_do 5 45 rfl rfl (by kernel_rfl) (by kernel_rfl) (by kernel_rfl) (fun _ _ _ _ _ h => h) (by kernel_rfl) (by intro w; go_simp; try with_reducible rfl) ?_
                simp only [List.setIfInBounds_toArray, List.set_cons_succ, List.set_cons_zero]
                refine wpAny_do 6 46 rfl rfl (by kernel_rfl) (by kernel_rfl) (by kernel_rfl) (fun _ _ _ _ _ h => h) (by kernel_rfl) (by intro w; go_simp; try with_reducible rfl) ?_
                simp only [List.setIfInBounds_toArray, List.set_cons_succ, List.set_cons_zero]
                refine wpAny_call 7 rfl (by kernel_rfl) (by kernel_rfl) (fun K hK => ?_)
                go_simp
                go_wp2_with (go_at_call 45; refine (HON.out _).mono ?_; rintro e w5 ⟨v5, rfl, M5⟩; have R5 := M5.rv; rw [List.length_map] at R5; have hBn := bel hBr.drew M5.2)
                first | (refine hK _ _ ?_; clear hK K) | skip
                refine wpAny_call 8 rfl (by kernel_rfl) (by kernel_rfl) (fun K hK => ?_)
                go_simp
                go_wp2_with (go_at_call 49; refine (HBE.out _ _ (hrq.below hBn) R5).mono ?_; rintro e w6 ⟨rfl, n6, hw6⟩; have hBm : Below wq.heap.size wq w6 := (by rw [hw6]; exact belD hBn _); clear hw6)
                first | (refine hK _ _ ?_; clear hK K) | skip
                refine wpAny_do 9 49 rfl rfl (by kernel_rfl) (by kernel_rfl) (by kernel_rfl) (fun _ _ _ _ _ h => h) (by kernel_rfl) (by intro w; go_simp; try with_reducible rfl) ?_
                simp only [List.setIfInBounds_toArray, List.set_cons_succ, List.set_cons_zero]
                refine wpAny_do 10 50 rfl rfl (by kernel_rfl) (by kernel_rfl) (by kernel_rfl) (fun _ _ _ _ _ h => h) (by kernel_rfl) (by intro w; go_simp; try with_reducible rfl) ?_
                simp only [List.setIfInBounds_toArray, List.set_cons_succ, List.set_cons_zero]
                refine wpAny_skip 11 51 rfl rfl (by kernel_rfl) (by kernel_rfl) (by kernel_rfl) (fun _ _ _ _ _ h => h) (by kernel_rfl) ?_
                simp only [List.setIfInBounds_toArray, List.set_cons_succ, List.set_cons_zero]
                refine wpAny_skip 12 52 rfl rfl (by kernel_rfl) (by kernel_rfl) (by kernel_rfl) (fun _ _ _ _ _ h => h) (by kernel_rfl) ?_
                simp only [List.setIfInBounds_toArray, List.set_cons_succ, List.set_cons_zero]
                refine wpAny_skip 13 53 rfl rfl (by kernel_rfl) (by kernel_rfl) (by kernel_rfl) (fun _ _ _ _ _ h => h) (by kernel_rfl) ?_
                simp only [List.setIfInBounds_toArray, List.set_cons_succ, List.set_cons_zero]
                refine wpAny_skip 14 54 rfl rfl (by kernel_rfl) (by kernel_rfl) (by kernel_rfl) (fun _ _ _ _ _ h => h) (by kernel_rfl) ?_
                simp only [List.setIfInBounds_toArray, List.set_cons_succ, List.set_cons_zero]
                refine wpAny_skip 15 55 rfl rfl (by kernel_rfl) (by kernel_rfl) (by kernel_rfl) (fun _ _ _ _ _ h => h) (by kernel_rfl) ?_
                simp only [List.setIfInBounds_toArray, List.set_cons_succ, List.set_cons_zero]
                refine wpAny_skip 16 56 rfl rfl (by kernel_rfl) (by kernel_rfl) (by kernel_rfl) (fun _ _ _ _ _ h => h) (by kernel_rfl) ?_
                simp only [List.setIfInBounds_toArray, List.set_cons_succ, List.set_cons_zero]
                refine wpAny_do 17 57 rfl rfl (by kernel_rfl) (by kernel_rfl) (by kernel_rfl) (fun _ _ _ _ _ h => h) (by kernel_rfl) (by intro w; go_simp; try with_reducible rfl) ?_
                simp only [List.setIfInBounds_toArray, List.set_cons_succ, List.set_cons_zero]
                refine wpAny_done (by kernel_rfl) ?_ _
                go_wp2_with fail
                go_roundw
                case rel => exact ⟨j + 1, by go_num, by omega, by omega, by omega, bel hD hBm, .inl ⟨rfl, rfl, bel hC hBm, HNG, own_below hown2 hBm⟩⟩
                case measure => simp [intOf]; omega
              · by_cases hlj : o.length = j
                · have HG : Hid (goodM runes (j + 1 - 1) b) := by show goodM _ _ _; rw [Nat.add_sub_cancel]; exact hgd.2 ⟨rfl, rfl, hlj⟩
                  have hlb : ((o.length : Int) == (j : Int)) = true := by simp [hlj]
                  clear hgd
                  have HLJ := Lib.hid hlj
                  clear hlj
                  go_wp2_with fail
                  go_region_held3 (fun W' => Below wq.heap.size wq W') (first | exact hBn | exact hBr.drew)
                    (first
                      | (go_at_call 45; have hS := (show Below wq.heap.size wq _ by assumption); refine (HON.out _).mono ?_; rintro e w5 ⟨v5, rfl, M5⟩; obtain ⟨k5, a5, c5, rfl⟩ := own_shape M5.1; have R5 := M5.rv; rw [List.length_map] at R5; have e5 := own_kk2 R5; subst e5; have hBn := bel hS M5.2)
                      | (go_at_call 49; have hS := (show Below wq.heap.size wq _ by assumption); refine (HBE.out _ _ (hrq.below hS) R5).mono ?_; rintro e w6 ⟨rfl, n6, hw6⟩; have hBn : Below wq.heap.size wq w6 := (by rw [hw6]; exact belD hS _); clear hw6))
                  have hsq : w.heap.size ≤ wq.heap.size := Nat.le_trans hsz hC.size
                  have hsn := hBn.size
                  go_wp2_with (at_builtin; refine wpList_app _ rfl _ _ rfl Tryd.elI w.heap.size (.slice ax kx cx) ys.length _ rfl (own_below (own_below hown2 hBn) ((Below.refl _ _).alloc (Nat.le_refl _) _)) (.slice (some ⟨_, 0, none⟩) 1 1) 1 [.int .i64 (n : Int)] rfl (Rv.one _ _ _) rfl (ones1 _ rfl) (by omega) (by simp; omega) ?_; intro v7 w7 hown7 hg7 _)
                  go_roundw
                  case rel =>
                    refine ⟨j + 1, by go_num, by omega, by omega, by omega, ?_, .inr ⟨by omega, by rw [Nat.add_sub_cancel], HG, ?_⟩⟩
                    · exact ((bel hD hBn).alloc (bel hD hBn).size _).grown hg7 (by simp; omega) (fun g e => (hown2.lt g e).1)
                    · rw [← hjn.out, List.map_append]
                      exact hown7
                  case measure => simp [intOf]; omega
                · have hng : ¬ goodM runes j b := fun h => hlj (hgd.1 h).2.2
                  have HNG : Hid (∀ i, 1 ≤ i → i < j + 1 → ¬ goodM runes i b) := by
                    intro i h1 h2
                    rcases Nat.lt_or_ge i j with h | h
                    · exact HN.out i h1 h
                    · rwa [show i = j from by omega]
                  have hlb : ((o.length : Int) == (j : Int)) = false := beq_eq_false_iff_ne.2 (by omega)
                  clear hgd hng
                  have HLJ := Lib.hid hlj
                  clear hlj
                  go_wp2_with fail
                  go_region_held3 (fun W' => Below wq.heap.size wq W') (first | exact hBn | exact hBr.drew)
                    (first
                      | (go_at_call 45; have hS := (show Below wq.heap.size wq _ by assumption); refine (HON.out _).mono ?_; rintro e w5 ⟨v5, rfl, M5⟩; obtain ⟨k5, a5, c5, rfl⟩ := own_shape M5.1; have R5 := M5.rv; rw [List.length_map] at R5; have e5 := own_kk2 R5; subst e5; have hBn := bel hS M5.2)
                      | (go_at_call 49; have hS := (show Below wq.heap.size wq _ by assumption); refine (HBE.out _ _ (hrq.below hS) R5).mono ?_; rintro e w6 ⟨rfl, n6, hw6⟩; have hBn : Below wq.heap.size wq w6 := (by rw [hw6]; exact belD hS _); clear hw6))
                  go_wp2_with fail
                  go_roundw
                  case rel => exact ⟨j + 1, by go_num, by omega, by omega, by omega, bel hD hBn, .inl ⟨rfl, rfl, bel hC hBn, HNG, own_below hown2 hBn⟩⟩
                  case measure => simp [intOf]; omega
          · have h0 : (nextM runes b).2 = 0 := by
              refine Decidable.byContradiction fun h => ?_
              obtain ⟨i, h1, h2, h3, h4⟩ := next_good (by omega) h
              exact HN.out i h1 (by omega) h4
            obtain ⟨hr, hu⟩ := HQ2.out ys (by rw [HDM.out, HS.out.1, HST.out, if_pos h0])
            subst hr
            subst hu
            clear h0
            have hj3 : (¬ (j : Int) ≤ 4) ∨ ((j : Int) ≤ 4 ∧ ¬ (j : Int) ≤ (bs.length : Int) - (k : Int)) := by omega
            clear hjj
            rcases hj3 with hj3 | ⟨hj3, hj4⟩
            all_goals
              go_wp2_with fail
              go_ret2
              exact ⟨_, rfl, World.ownsRow_nil _ _ _ _, hD⟩
        · obtain ⟨m, rfl⟩ : ∃ m, j = m + 1 := ⟨j - 1, by omega⟩
          rw [Nat.add_sub_cancel] at HG hown2 ⊢
          have hn := good_next HG.out
          have hpos := (symB_nat HG.out.1).1
          have HS3 : Hid (symsM runes bs.length bs = (ys ++ [numM m b]) ++ symsM runes f' (bs.drop (k + m)) ∧ ∀ y ∈ ys ++ [numM m b], 0 ≤ y) := by
            refine ⟨?_, fun y hy => ?_⟩
            · rw [HS.out.1, HST.out, hn, Int.toNat_natCast, if_neg (by show ¬ (m : Int) = 0; omega), List.append_assoc]
              rfl
            · rcases List.mem_append.1 hy with h | h
              · exact HS.out.2 y h
              · rw [List.mem_singleton.1 h]; exact hpos
          clear hn hpos HS HST HG
          have hz : ((m : Int) == 0) = false := beq_eq_false_iff_ne.2 (by omega)
          generalize numM m b = N at *
          obtain ⟨kz, az, cz, rfl⟩ := own_shape hown2
          go_wp2_with fail
          all_goals
            go_roundw
            case rel => exact ⟨k + m, f', ys ++ [N], by go_num, by omega, by omega, by simp; omega, HS3, by rw [List.length_append]; exact hown2, hD⟩
            case measure => simp [intOf]; omega
    · obtain rfl : k = bs.length := by omega
      have hs : symsM runes bs.length bs = ys := by
        rw [HS.out.1, List.drop_length]
        cases f <;> simp [symsM]
      obtain ⟨hr, hu⟩ := HQ.out ys (by rw [HDM.out, hs]) HS.out.2 (by omega)
      subst hr
      subst hu
      clear hs
      have hbig : (us.length : Int) ≤ 65536 := by omega
      have hkl : kx = us.length := own_kk2 (Rv.of_own hown) |>.symm
      subst hkl
      go_wp2_with fail
      go_ret2
      exact ⟨_, rfl, hown, hB⟩
end Go.Proofs.YtcknnlbfbjcjjaaDoor
