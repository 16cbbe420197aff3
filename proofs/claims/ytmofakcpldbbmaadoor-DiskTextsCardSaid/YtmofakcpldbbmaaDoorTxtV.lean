/- Package text: Encode. -/
import Derived.Test.YtmofakcpldbbmaaDoorTxtL
import Derived.Test.YtmofakcpldbbmaaDoorTxtO
import Derived.Test.YtmofakcpldbbmaaDoorTxtVa
import Derived.StillTailTactics
namespace Go.Proofs.YtmofakcpldbbmaaDoor
open Go.RowKit

set_option maxRecDepth 20000 in
set_option maxHeartbeats 8000000 in
theorem encode_any (v : Value) (l : List Int) (runes : Bool) (w : World) (hv : Rv w v l.length (l.map (Value.int .i64))) (hl : l.length ≤ 1000000000) (hF : FM w) :
    Calls Tryd.prog 6 #[v, .bool runes] w (EnPost w (valM l runes) (encR l runes)) := by
  have hva := valid_any v l runes w hv hl
  have hw0 : 0 < w.heap.size := World.block_lt_of_cell? w _ (hF 0 (by omega))
  obtain ⟨ao, cap, rfl, hcap, _⟩ := hv.opened
  have hus : encR l runes = if valM l runes = 0 then encM l runes else [] := rfl
  have hok : valM l runes = 0 → l.length ≤ 65536 ∧ ∀ x ∈ l, symB runes x = true := by
    intro h
    unfold valM at h
    split at h
    · cases h
    split at h
    · rename_i h1 h2
      exact ⟨by omega, fun x hx => List.all_eq_true.1 h2 x hx⟩
    · cases h
  generalize valM l runes = r at *
  generalize encR l runes = us at *
  have HU := Lib.hid hus
  clear hus
  by_cases h0 : r = 0
  · subst h0
    obtain ⟨hlen, hsym⟩ := hok rfl
    have hu0 : us = encM l runes := by rw [HU.out, if_pos rfl]
    have HU2 := Lib.hid hu0
    have HSY := Lib.hid hsym
    clear HU hok hu0 hsym
    go_enter Tryd.func6, Tryd.ntmps6
    go_wp2_with fail
    refine hva.mono ?_
    rintro e w' ⟨rfl, B1⟩
    clear hva
    have B1s := B1.size
    go_wp2_with (at_make; refine wpList_mk0 _ Tryd.elB rfl _ _ rfl w.heap.size .i64 .i64 l.length rfl rfl (by omega) B1s ?_; intro a2 w2 hown2 hg2)
    have B2 : Below w.heap.size w w2 := B1.grown hg2 B1s (fun g h => by cases h)
    clear hg2 B1 B1s
    go_loopw [7, 24] (fun ov iv wr => ∃ (i : Nat) (ys : List UInt8), iv = .int .i64 (i : Int) ∧ i ≤ l.length ∧ Hid (ys = encM (l.take i) runes) ∧ wr.ownsRow w.heap.size 5 1 ov ys.length (ys.map vB) ∧ Below w.heap.size w wr) (fun _ iv _ => l.length - (intOf iv).toNat)
    case atStart => exact ⟨0, [], rfl, Nat.zero_le _, rfl, hown2, B2⟩
    case round =>
      obtain ⟨i, ys, rfl, hi, HY, hown, hB⟩ := hrel
      clear hown2 B2
      obtain ⟨wo, hwo⟩ : ∃ wo : World, wo = wr := ⟨_, rfl⟩
      rw [← hwo] at hB hown
      subst hwo
      obtain ⟨kx, ax, cx, rfl⟩ := own_shape hown
      have hyl : ys.length ≤ 300000 := by have := encM_len (l.take i) runes; rw [← HY.out, List.length_take] at this; omega
      have hsz := hB.size
      by_cases hlt : i < l.length
      · obtain ⟨b2, off2, ⟨_, he⟩, hcx⟩ := rvCell (hv.below hB) (i := i) hlt
        cases he
        have hsn := encM_snoc l runes i hlt
        rw [← HY.out] at hsn
        have hsy := symB_nat (HSY.out l[i] (List.getElem_mem hlt))
        generalize l[i] = x at *
        obtain ⟨s, rfl⟩ := Int.eq_ofNat_of_zero_le hsy.1
        have hs1 : runes = false → s ≤ 255 := fun h => by have := hsy.2.2 h; omega
        have hs2 : s ≤ 1114111 := by have := hsy.2.1; omega
        have HS : Hid (encM (l.take (i + 1)) runes = ys ++ oneM runes s) := hsn
        clear hsn hsy
        cases runes
        · have hs3 := hs1 rfl
          have hw1 := u8_wrap (s : Int) (by omega) (by omega)
          have e1 : oneM false s = [UInt8.ofNat s] := rfl
          rw [e1] at HS
          have hvb : Hid (vB (UInt8.ofNat s) = .int .u8 (s : Int)) := vB_of s (by omega)
          clear hs1 e1
          go_wp2_with (at_builtin; refine wpList_app _ rfl _ _ rfl Tryd.elB w.heap.size (.slice ax kx cx) ys.length _ rfl (own_below hown ((Below.refl _ _).alloc (Nat.le_refl _) _)) (.slice (some ⟨wo.heap.size, 0, none⟩) 1 1) 1 [.int .u8 (s : Int)] rfl (Rv.one _ _ _) rfl (ones1 _ rfl) (by omega) (by simp; omega) ?_; intro v6 w6 hown6 hg6 _)
          go_roundw
          case rel => exact ⟨i + 1, ys ++ [UInt8.ofNat s], by go_num, by omega, HS.out.symm, by rw [List.map_append, List.map_cons, List.map_nil, hvb.out, List.length_append]; exact hown6, ((hB.alloc hsz _).grown hg6 (by simp; omega) (fun g e => (hown.lt g e).1))⟩
          case measure => simp [intOf]; omega
        · have hF2 := hF.below hB hw0
          clear hs1
          have f0 := hF2 0 (by decide)
          have f1 := hF2 1 (by decide)
          have f2 := hF2 2 (by decide)
          have f3 := hF2 3 (by decide)
          have f4 := hF2 4 (by decide)
          have f5 := hF2 5 (by decide)
          have f6 := hF2 6 (by decide)
          have f7 := hF2 7 (by decide)
          have f8 := hF2 8 (by decide)
          have f9 := hF2 9 (by decide)
          have f10 := hF2 10 (by decide)
          have f11 := hF2 11 (by decide)
          have f12 := hF2 12 (by decide)
          have f13 := hF2 13 (by decide)
          have f14 := hF2 14 (by decide)
          have f15 := hF2 15 (by decide)
          simp only [formsL, List.getD_cons_zero, List.getD_cons_succ] at f0 f1 f2 f3 f4 f5 f6 f7 f8 f9 f10 f11 f12 f13 f14 f15
          clear hF2
          go_wp2_with fail
          clear f0 f1 f2 f3 f4 f5 f6 f7 f8 f9 f10 f11 f12 f13 f14 f15
          go_loopw [7, 36] (fun ov kv wr => ∃ k : Nat, kv = .int .i64 (k : Int) ∧ ov = .slice ax kx cx ∧ k ≤ 4 ∧ Hid ((1 ≤ k → 127 < s) ∧ (2 ≤ k → 2047 < s) ∧ (3 ≤ k → 65535 < s) ∧ (4 ≤ k → 1114111 < s)) ∧ Below wo.heap.size wo wr) (fun _ kv _ => 4 - (intOf kv).toNat)
          case atStart => exact ⟨0, rfl, rfl, Nat.zero_le _, ⟨fun h => by omega, fun h => by omega, fun h => by omega, fun h => by omega⟩, Below.refl _ _⟩
          case round =>
            obtain ⟨k, rfl, rfl, hk, HK, hC⟩ := hrel
            obtain ⟨wq, hwq⟩ : ∃ wq : World, wq = wr := ⟨_, rfl⟩
            rw [← hwq] at hC
            subst hwq
            have hsc := hC.size
            have hk5 : k = 0 ∨ k = 1 ∨ k = 2 ∨ k = 3 ∨ k = 4 := by omega
            rcases hk5 with rfl | rfl | rfl | rfl | rfl
            · have ix := idx0
              have hw0 : IntKind.i64.wrap 0 = 0 := by rw [IntKind.wrap_i64]; decide
              have hbx : Below wo.heap.size wo (wq.alloc (.cells #[.int .i64 0, .int .i64 127, .int .i64 0, .int .i64 0] 47)) := hC.alloc hsc _
              by_cases hx0 : s ≤ 127
              · have hge : Hid (0 ≤ s) := by show _ ≤ _; have h := HK.out; omega
                have e1 := one0 s (by omega)
                rw [e1] at HS
                clear e1
                have hu0 := u8_wrap ((s : Int)) (by omega) (by have := hge.out; omega)
                have hv0 : Hid (vB (UInt8.ofNat (s)) = .int .u8 ((s : Int))) := vB_of _ (by have := hge.out; omega)
                have hgt : (s : Int) ≤ 127 := by omega
                go_wp2_with fail
                have hld : Value.int .u8 (IntKind.u8.wrap (IntKind.i64.wrap (s : Int))) = vB (UInt8.ofNat (s)) := lead_val (s) (by have := hge.out; omega)
                have HLD := Lib.hid hld
                clear hld
                have NE : some wq.heap.size ≠ (Value.slice ax kx cx).ownBlock := fun e => by have := (hown.lt _ e.symm).2; omega
                go_region_law ((refine step_app1 rfl _ _ (by rfl) Tryd.elB w.heap.size (.slice ax kx cx) _ _ (by rfl) (own_below hown (hbx.drew.alloc (by simp; omega) _)) (wq.heap.size + 1) (.int .u8 (IntKind.u8.wrap (IntKind.i64.wrap (s : Int)))) (by rfl) (rv_litH _ [_] _ 1 (by unfold maxLen; omega) _ (by simp)) (by rfl) (by omega) (by simp; omega) ?_; intro v7 w7 hown7 hg7 hs7; obtain ⟨k7, a7, c7, rfl⟩ := own_shape hown7))
                all_goals
                  have B7 : Below w.heap.size w w7 := (hB.trans ((hbx.drew.alloc (by simp; omega) _).mono hsz)).grown hg7 (by simp; omega) (fun g e => (hown.lt g e).1)
                  have c3 : w7.cell? ⟨wq.heap.size, 3, none⟩ = some (.int .i64 0) := (cell_of_block (p := ⟨wq.heap.size, 3, none⟩) (hg7.block wq.heap.size (by simp; omega) NE)).trans (by simp)
                  rw [HLD.out] at hown7
                  clear hg7 hs7 hown hbx ix hB hC hsc hsz NE hcx
                  go_wp2_with fail
                  clear c3
                  go_loopw [7, 12] (fun ov iv wi => ((iv = .int .i64 (-1) ∧ wi.ownsRow w.heap.size 5 1 ov (ys.length + 1) (List.map vB ys ++ [vB (UInt8.ofNat (s))]))) ∧ Below w.heap.size w wi) (fun _ iv _ => (intOf iv + 1).toNat)
                  case atStart => exact ⟨⟨rfl, hown7⟩, B7⟩
                  case round =>
                    obtain ⟨⟨rfl, hown⟩, hB⟩ := hrel
                    go_wp2_with fail
                    go_roundw
                    case rel => exact ⟨i + 1, ys ++ [UInt8.ofNat (s)], by go_num, by omega, HS.out.symm, by rw [List.map_append, List.length_append]; exact hown, hB⟩
                    case measure => simp [intOf]; omega
              · have hgt : ¬ (s : Int) ≤ 127 := by omega
                have HX := Lib.hid hx0
                clear hx0
                go_wp2_with fail
                go_roundw
                case rel => exact ⟨1, by go_num, rfl, by omega, ⟨fun h => by have := HX.out; omega, fun h => by have := HX.out; have := HK.out; omega, fun h => by have := HX.out; have := HK.out; omega, fun h => by have := HX.out; have := HK.out; omega⟩, hbx⟩
                case measure => simp [intOf]
            · have ix := idx1
              have hw0 : IntKind.i64.wrap 6 = 6 := by rw [IntKind.wrap_i64]; decide
              have hbx : Below wo.heap.size wo (wq.alloc (.cells #[.int .i64 128, .int .i64 2047, .int .i64 192, .int .i64 1] 47)) := hC.alloc hsc _
              by_cases hx0 : s ≤ 2047
              · have hge : Hid (128 ≤ s) := by show _ ≤ _; have h := HK.out; omega
                have e1 := one1 s (by have := hge.out; omega) (by omega)
                rw [e1] at HS
                clear e1
                have hu0 := u8_wrap (192 + (s : Int) / 64) (by omega) (by have := hge.out; omega)
                have hv0 : Hid (vB (UInt8.ofNat (192 + s / 64)) = .int .u8 (192 + (s : Int) / 64)) := vB_of _ (by have := hge.out; omega)
                have hv1 : Hid (vB (UInt8.ofNat (128 + s % 64)) = .int .u8 (128 + (s : Int) % 64)) := vB_of _ (by have := hge.out; omega)
                have hgt : (s : Int) ≤ 2047 := by omega
                go_wp2_with fail
                have hld : Value.int .u8 (IntKind.u8.wrap (IntKind.i64.wrap (192 + (s : Int) / 64))) = vB (UInt8.ofNat (192 + s / 64)) := lead_val (192 + s / 64) (by have := hge.out; omega)
                have HLD := Lib.hid hld
                clear hld
                have NE : some wq.heap.size ≠ (Value.slice ax kx cx).ownBlock := fun e => by have := (hown.lt _ e.symm).2; omega
                go_region_law ((refine step_app1 rfl _ _ (by rfl) Tryd.elB w.heap.size (.slice ax kx cx) _ _ (by rfl) (own_below hown (hbx.drew.alloc (by simp; omega) _)) (wq.heap.size + 1) (.int .u8 (IntKind.u8.wrap (IntKind.i64.wrap (192 + (s : Int) / 64)))) (by rfl) (rv_litH _ [_] _ 1 (by unfold maxLen; omega) _ (by simp)) (by rfl) (by omega) (by simp; omega) ?_; intro v7 w7 hown7 hg7 hs7; obtain ⟨k7, a7, c7, rfl⟩ := own_shape hown7))
                all_goals
                  have B7 : Below w.heap.size w w7 := (hB.trans ((hbx.drew.alloc (by simp; omega) _).mono hsz)).grown hg7 (by simp; omega) (fun g e => (hown.lt g e).1)
                  have c3 : w7.cell? ⟨wq.heap.size, 3, none⟩ = some (.int .i64 1) := (cell_of_block (p := ⟨wq.heap.size, 3, none⟩) (hg7.block wq.heap.size (by simp; omega) NE)).trans (by simp)
                  rw [HLD.out] at hown7
                  clear hg7 hs7 hown hbx ix hB hC hsc hsz NE hcx
                  go_wp2_with fail
                  clear c3
                  have hb0 : Value.int .u8 (wrap64 (128 + bits .and .i64 ((s : Int)) 63) % 256) = .int .u8 (128 + (s : Int) % 64) := cont_val (s) (by omega)
                  go_loopw [7, 12] (fun ov iv wi => ((iv = .int .i64 (0) ∧ wi.ownsRow w.heap.size 5 1 ov (ys.length + 1) (List.map vB ys ++ [vB (UInt8.ofNat (192 + s / 64))])) ∨ (iv = .int .i64 (-1) ∧ wi.ownsRow w.heap.size 5 1 ov (ys.length + 2) (List.map vB ys ++ [vB (UInt8.ofNat (192 + s / 64)), vB (UInt8.ofNat (128 + s % 64))]))) ∧ Below w.heap.size w wi) (fun _ iv _ => (intOf iv + 1).toNat)
                  case atStart => exact ⟨.inl ⟨rfl, hown7⟩, B7⟩
                  case round =>
                    obtain ⟨(⟨rfl, hown⟩ | ⟨rfl, hown⟩), hB⟩ := hrel
                    · obtain ⟨kx, ax, cx, rfl⟩ := own_shape hown
                      have hsz := hB.size
                      go_wp2_with (at_builtin; refine wpList_app _ rfl _ _ rfl Tryd.elB w.heap.size (.slice ax kx cx) (ys.length + 1) _ rfl (own_below hown ((Below.refl _ _).alloc (Nat.le_refl _) _)) (.slice (some ⟨_, 0, none⟩) 1 1) 1 [.int .u8 (128 + (s : Int) % 64)] rfl (Rv.one _ _ _) rfl (ones1 _ rfl) (by omega) (by simp; omega) ?_; intro v6 w6 hown6 hg6 _)
                      go_roundw
                      case rel =>
                        refine ⟨.inr (⟨rfl, ?_⟩), ((hB.alloc hsz _).grown hg6 (by simp; omega) (fun g e => (hown.lt g e).1))⟩
                        have h := hown6
                        rw [← hv1.out, List.append_assoc] at h
                        exact h
                      case measure => simp [intOf]
                    · go_wp2_with fail
                      go_roundw
                      case rel => exact ⟨i + 1, ys ++ [UInt8.ofNat (192 + s / 64), UInt8.ofNat (128 + s % 64)], by go_num, by omega, HS.out.symm, by rw [List.map_append, List.length_append]; exact hown, hB⟩
                      case measure => simp [intOf]; omega
              · have hgt : ¬ (s : Int) ≤ 2047 := by omega
                have HX := Lib.hid hx0
                clear hx0
                go_wp2_with fail
                go_roundw
                case rel => exact ⟨2, by go_num, rfl, by omega, ⟨fun h => by have := HX.out; omega, fun h => by have := HX.out; have := HK.out; omega, fun h => by have := HX.out; have := HK.out; omega, fun h => by have := HX.out; have := HK.out; omega⟩, hbx⟩
                case measure => simp [intOf]
            · have ix := idx2
              have hw0 : IntKind.i64.wrap 12 = 12 := by rw [IntKind.wrap_i64]; decide
              have hbx : Below wo.heap.size wo (wq.alloc (.cells #[.int .i64 2048, .int .i64 65535, .int .i64 224, .int .i64 2] 47)) := hC.alloc hsc _
              by_cases hx0 : s ≤ 65535
              · have hge : Hid (2048 ≤ s) := by show _ ≤ _; have h := HK.out; omega
                have e1 := one2 s (by have := hge.out; omega) (by omega)
                rw [e1] at HS
                clear e1
                have hu0 := u8_wrap (224 + (s : Int) / 4096) (by omega) (by have := hge.out; omega)
                have hv0 : Hid (vB (UInt8.ofNat (224 + s / 4096)) = .int .u8 (224 + (s : Int) / 4096)) := vB_of _ (by have := hge.out; omega)
                have hv1 : Hid (vB (UInt8.ofNat (128 + s / 64 % 64)) = .int .u8 (128 + (s : Int) / 64 % 64)) := vB_of _ (by have := hge.out; omega)
                have hv2 : Hid (vB (UInt8.ofNat (128 + s % 64)) = .int .u8 (128 + (s : Int) % 64)) := vB_of _ (by have := hge.out; omega)
                have hgt : (s : Int) ≤ 65535 := by omega
                go_wp2_with fail
                have hld : Value.int .u8 (IntKind.u8.wrap (IntKind.i64.wrap (224 + (s : Int) / 4096))) = vB (UInt8.ofNat (224 + s / 4096)) := lead_val (224 + s / 4096) (by have := hge.out; omega)
                have HLD := Lib.hid hld
                clear hld
                have NE : some wq.heap.size ≠ (Value.slice ax kx cx).ownBlock := fun e => by have := (hown.lt _ e.symm).2; omega
                go_region_law ((refine step_app1 rfl _ _ (by rfl) Tryd.elB w.heap.size (.slice ax kx cx) _ _ (by rfl) (own_below hown (hbx.drew.alloc (by simp; omega) _)) (wq.heap.size + 1) (.int .u8 (IntKind.u8.wrap (IntKind.i64.wrap (224 + (s : Int) / 4096)))) (by rfl) (rv_litH _ [_] _ 1 (by unfold maxLen; omega) _ (by simp)) (by rfl) (by omega) (by simp; omega) ?_; intro v7 w7 hown7 hg7 hs7; obtain ⟨k7, a7, c7, rfl⟩ := own_shape hown7))
                all_goals
                  have B7 : Below w.heap.size w w7 := (hB.trans ((hbx.drew.alloc (by simp; omega) _).mono hsz)).grown hg7 (by simp; omega) (fun g e => (hown.lt g e).1)
                  have c3 : w7.cell? ⟨wq.heap.size, 3, none⟩ = some (.int .i64 2) := (cell_of_block (p := ⟨wq.heap.size, 3, none⟩) (hg7.block wq.heap.size (by simp; omega) NE)).trans (by simp)
                  rw [HLD.out] at hown7
                  clear hg7 hs7 hown hbx ix hB hC hsc hsz NE hcx
                  go_wp2_with fail
                  clear c3
                  have hb0 : Value.int .u8 (wrap64 (128 + bits .and .i64 ((s : Int)) 63) % 256) = .int .u8 (128 + (s : Int) % 64) := cont_val (s) (by omega)
                  have hb1 : Value.int .u8 (wrap64 (128 + bits .and .i64 ((s : Int) / 64) 63) % 256) = .int .u8 (128 + (s : Int) / 64 % 64) := cont_val (s / 64) (by omega)
                  go_loopw [7, 12] (fun ov iv wi => ((iv = .int .i64 (1) ∧ wi.ownsRow w.heap.size 5 1 ov (ys.length + 1) (List.map vB ys ++ [vB (UInt8.ofNat (224 + s / 4096))])) ∨ (iv = .int .i64 (0) ∧ wi.ownsRow w.heap.size 5 1 ov (ys.length + 2) (List.map vB ys ++ [vB (UInt8.ofNat (224 + s / 4096)), vB (UInt8.ofNat (128 + s / 64 % 64))])) ∨ (iv = .int .i64 (-1) ∧ wi.ownsRow w.heap.size 5 1 ov (ys.length + 3) (List.map vB ys ++ [vB (UInt8.ofNat (224 + s / 4096)), vB (UInt8.ofNat (128 + s / 64 % 64)), vB (UInt8.ofNat (128 + s % 64))]))) ∧ Below w.heap.size w wi) (fun _ iv _ => (intOf iv + 1).toNat)
                  case atStart => exact ⟨.inl ⟨rfl, hown7⟩, B7⟩
                  case round =>
                    obtain ⟨(⟨rfl, hown⟩ | ⟨rfl, hown⟩ | ⟨rfl, hown⟩), hB⟩ := hrel
                    · obtain ⟨kx, ax, cx, rfl⟩ := own_shape hown
                      have hsz := hB.size
                      go_wp2_with (at_builtin; refine wpList_app _ rfl _ _ rfl Tryd.elB w.heap.size (.slice ax kx cx) (ys.length + 1) _ rfl (own_below hown ((Below.refl _ _).alloc (Nat.le_refl _) _)) (.slice (some ⟨_, 0, none⟩) 1 1) 1 [.int .u8 (128 + (s : Int) / 64 % 64)] rfl (Rv.one _ _ _) rfl (ones1 _ rfl) (by omega) (by simp; omega) ?_; intro v6 w6 hown6 hg6 _)
                      go_roundw
                      case rel =>
                        refine ⟨.inr (.inl ⟨rfl, ?_⟩), ((hB.alloc hsz _).grown hg6 (by simp; omega) (fun g e => (hown.lt g e).1))⟩
                        have h := hown6
                        rw [← hv1.out, List.append_assoc] at h
                        exact h
                      case measure => simp [intOf]
                    · obtain ⟨kx, ax, cx, rfl⟩ := own_shape hown
                      have hsz := hB.size
                      go_wp2_with (at_builtin; refine wpList_app _ rfl _ _ rfl Tryd.elB w.heap.size (.slice ax kx cx) (ys.length + 2) _ rfl (own_below hown ((Below.refl _ _).alloc (Nat.le_refl _) _)) (.slice (some ⟨_, 0, none⟩) 1 1) 1 [.int .u8 (128 + (s : Int) % 64)] rfl (Rv.one _ _ _) rfl (ones1 _ rfl) (by omega) (by simp; omega) ?_; intro v6 w6 hown6 hg6 _)
                      go_roundw
                      case rel =>
                        refine ⟨.inr (.inr (⟨rfl, ?_⟩)), ((hB.alloc hsz _).grown hg6 (by simp; omega) (fun g e => (hown.lt g e).1))⟩
                        have h := hown6
                        rw [← hv2.out, List.append_assoc] at h
                        exact h
                      case measure => simp [intOf]
                    · go_wp2_with fail
                      go_roundw
                      case rel => exact ⟨i + 1, ys ++ [UInt8.ofNat (224 + s / 4096), UInt8.ofNat (128 + s / 64 % 64), UInt8.ofNat (128 + s % 64)], by go_num, by omega, HS.out.symm, by rw [List.map_append, List.length_append]; exact hown, hB⟩
                      case measure => simp [intOf]; omega
              · have hgt : ¬ (s : Int) ≤ 65535 := by omega
                have HX := Lib.hid hx0
                clear hx0
                go_wp2_with fail
                go_roundw
                case rel => exact ⟨3, by go_num, rfl, by omega, ⟨fun h => by have := HX.out; omega, fun h => by have := HX.out; have := HK.out; omega, fun h => by have := HX.out; have := HK.out; omega, fun h => by have := HX.out; have := HK.out; omega⟩, hbx⟩
                case measure => simp [intOf]
            · have ix := idx3
              have hw0 : IntKind.i64.wrap 18 = 18 := by rw [IntKind.wrap_i64]; decide
              have hbx : Below wo.heap.size wo (wq.alloc (.cells #[.int .i64 65536, .int .i64 1114111, .int .i64 240, .int .i64 3] 47)) := hC.alloc hsc _
              by_cases hx0 : s ≤ 1114111
              · have hge : Hid (65536 ≤ s) := by show _ ≤ _; have h := HK.out; omega
                have e1 := one3 s (by have := hge.out; omega)
                rw [e1] at HS
                clear e1
                have hu0 := u8_wrap (240 + (s : Int) / 262144) (by omega) (by have := hge.out; omega)
                have hv0 : Hid (vB (UInt8.ofNat (240 + s / 262144)) = .int .u8 (240 + (s : Int) / 262144)) := vB_of _ (by have := hge.out; omega)
                have hv1 : Hid (vB (UInt8.ofNat (128 + s / 4096 % 64)) = .int .u8 (128 + (s : Int) / 4096 % 64)) := vB_of _ (by have := hge.out; omega)
                have hv2 : Hid (vB (UInt8.ofNat (128 + s / 64 % 64)) = .int .u8 (128 + (s : Int) / 64 % 64)) := vB_of _ (by have := hge.out; omega)
                have hv3 : Hid (vB (UInt8.ofNat (128 + s % 64)) = .int .u8 (128 + (s : Int) % 64)) := vB_of _ (by have := hge.out; omega)
                have hgt : (s : Int) ≤ 1114111 := by omega
                go_wp2_with fail
                have hld : Value.int .u8 (IntKind.u8.wrap (IntKind.i64.wrap (240 + (s : Int) / 262144))) = vB (UInt8.ofNat (240 + s / 262144)) := lead_val (240 + s / 262144) (by have := hge.out; omega)
                have HLD := Lib.hid hld
                clear hld
                have NE : some wq.heap.size ≠ (Value.slice ax kx cx).ownBlock := fun e => by have := (hown.lt _ e.symm).2; omega
                go_region_law ((refine step_app1 rfl _ _ (by rfl) Tryd.elB w.heap.size (.slice ax kx cx) _ _ (by rfl) (own_below hown (hbx.drew.alloc (by simp; omega) _)) (wq.heap.size + 1) (.int .u8 (IntKind.u8.wrap (IntKind.i64.wrap (240 + (s : Int) / 262144)))) (by rfl) (rv_litH _ [_] _ 1 (by unfold maxLen; omega) _ (by simp)) (by rfl) (by omega) (by simp; omega) ?_; intro v7 w7 hown7 hg7 hs7; obtain ⟨k7, a7, c7, rfl⟩ := own_shape hown7))
                all_goals
                  have B7 : Below w.heap.size w w7 := (hB.trans ((hbx.drew.alloc (by simp; omega) _).mono hsz)).grown hg7 (by simp; omega) (fun g e => (hown.lt g e).1)
                  have c3 : w7.cell? ⟨wq.heap.size, 3, none⟩ = some (.int .i64 3) := (cell_of_block (p := ⟨wq.heap.size, 3, none⟩) (hg7.block wq.heap.size (by simp; omega) NE)).trans (by simp)
                  rw [HLD.out] at hown7
                  clear hg7 hs7 hown hbx ix hB hC hsc hsz NE hcx
                  go_wp2_with fail
                  clear c3
                  have hb0 : Value.int .u8 (wrap64 (128 + bits .and .i64 ((s : Int)) 63) % 256) = .int .u8 (128 + (s : Int) % 64) := cont_val (s) (by omega)
                  have hb1 : Value.int .u8 (wrap64 (128 + bits .and .i64 ((s : Int) / 64) 63) % 256) = .int .u8 (128 + (s : Int) / 64 % 64) := cont_val (s / 64) (by omega)
                  have hb2 : Value.int .u8 (wrap64 (128 + bits .and .i64 ((s : Int) / 4096) 63) % 256) = .int .u8 (128 + (s : Int) / 4096 % 64) := cont_val (s / 4096) (by omega)
                  go_loopw [7, 12] (fun ov iv wi => ((iv = .int .i64 (2) ∧ wi.ownsRow w.heap.size 5 1 ov (ys.length + 1) (List.map vB ys ++ [vB (UInt8.ofNat (240 + s / 262144))])) ∨ (iv = .int .i64 (1) ∧ wi.ownsRow w.heap.size 5 1 ov (ys.length + 2) (List.map vB ys ++ [vB (UInt8.ofNat (240 + s / 262144)), vB (UInt8.ofNat (128 + s / 4096 % 64))])) ∨ (iv = .int .i64 (0) ∧ wi.ownsRow w.heap.size 5 1 ov (ys.length + 3) (List.map vB ys ++ [vB (UInt8.ofNat (240 + s / 262144)), vB (UInt8.ofNat (128 + s / 4096 % 64)), vB (UInt8.ofNat (128 + s / 64 % 64))])) ∨ (iv = .int .i64 (-1) ∧ wi.ownsRow w.heap.size 5 1 ov (ys.length + 4) (List.map vB ys ++ [vB (UInt8.ofNat (240 + s / 262144)), vB (UInt8.ofNat (128 + s / 4096 % 64)), vB (UInt8.ofNat (128 + s / 64 % 64)), vB (UInt8.ofNat (128 + s % 64))]))) ∧ Below w.heap.size w wi) (fun _ iv _ => (intOf iv + 1).toNat)
                  case atStart => exact ⟨.inl ⟨rfl, hown7⟩, B7⟩
                  case round =>
                    obtain ⟨(⟨rfl, hown⟩ | ⟨rfl, hown⟩ | ⟨rfl, hown⟩ | ⟨rfl, hown⟩), hB⟩ := hrel
                    · obtain ⟨kx, ax, cx, rfl⟩ := own_shape hown
                      have hsz := hB.size
                      go_wp2_with (at_builtin; refine wpList_app _ rfl _ _ rfl Tryd.elB w.heap.size (.slice ax kx cx) (ys.length + 1) _ rfl (own_below hown ((Below.refl _ _).alloc (Nat.le_refl _) _)) (.slice (some ⟨_, 0, none⟩) 1 1) 1 [.int .u8 (128 + (s : Int) / 4096 % 64)] rfl (Rv.one _ _ _) rfl (ones1 _ rfl) (by omega) (by simp; omega) ?_; intro v6 w6 hown6 hg6 _)
                      go_roundw
                      case rel =>
                        refine ⟨.inr (.inl ⟨rfl, ?_⟩), ((hB.alloc hsz _).grown hg6 (by simp; omega) (fun g e => (hown.lt g e).1))⟩
                        have h := hown6
                        rw [← hv1.out, List.append_assoc] at h
                        exact h
                      case measure => simp [intOf]
                    · obtain ⟨kx, ax, cx, rfl⟩ := own_shape hown
                      have hsz := hB.size
                      go_wp2_with (at_builtin; refine wpList_app _ rfl _ _ rfl Tryd.elB w.heap.size (.slice ax kx cx) (ys.length + 2) _ rfl (own_below hown ((Below.refl _ _).alloc (Nat.le_refl _) _)) (.slice (some ⟨_, 0, none⟩) 1 1) 1 [.int .u8 (128 + (s : Int) / 64 % 64)] rfl (Rv.one _ _ _) rfl (ones1 _ rfl) (by omega) (by simp; omega) ?_; intro v6 w6 hown6 hg6 _)
                      go_roundw
                      case rel =>
                        refine ⟨.inr (.inr (.inl ⟨rfl, ?_⟩)), ((hB.alloc hsz _).grown hg6 (by simp; omega) (fun g e => (hown.lt g e).1))⟩
                        have h := hown6
                        rw [← hv2.out, List.append_assoc] at h
                        exact h
                      case measure => simp [intOf]
                    · obtain ⟨kx, ax, cx, rfl⟩ := own_shape hown
                      have hsz := hB.size
                      go_wp2_with (at_builtin; refine wpList_app _ rfl _ _ rfl Tryd.elB w.heap.size (.slice ax kx cx) (ys.length + 3) _ rfl (own_below hown ((Below.refl _ _).alloc (Nat.le_refl _) _)) (.slice (some ⟨_, 0, none⟩) 1 1) 1 [.int .u8 (128 + (s : Int) % 64)] rfl (Rv.one _ _ _) rfl (ones1 _ rfl) (by omega) (by simp; omega) ?_; intro v6 w6 hown6 hg6 _)
                      go_roundw
                      case rel =>
                        refine ⟨.inr (.inr (.inr (⟨rfl, ?_⟩))), ((hB.alloc hsz _).grown hg6 (by simp; omega) (fun g e => (hown.lt g e).1))⟩
                        have h := hown6
                        rw [← hv3.out, List.append_assoc] at h
                        exact h
                      case measure => simp [intOf]
                    · go_wp2_with fail
                      go_roundw
                      case rel => exact ⟨i + 1, ys ++ [UInt8.ofNat (240 + s / 262144), UInt8.ofNat (128 + s / 4096 % 64), UInt8.ofNat (128 + s / 64 % 64), UInt8.ofNat (128 + s % 64)], by go_num, by omega, HS.out.symm, by rw [List.map_append, List.length_append]; exact hown, hB⟩
                      case measure => simp [intOf]; omega
              · exfalso; omega
            · exfalso; have := HK.out; omega
      · obtain rfl : i = l.length := by omega
        rw [List.take_length] at HY
        go_wp2_with fail
        go_ret2
        exact ⟨_, rfl, by rw [HU2.out, ← HY.out]; have h := hown; rw [← List.length_map vB] at h; exact ⟨h, hB⟩⟩
  · have hne : (r != 0) = true := by simpa using h0
    have hne2 : (r == 0) = false := by simpa using h0
    have hu0 : us = [] := by rw [HU.out, if_neg h0]
    subst hu0
    clear HU hok h0
    go_enter Tryd.func6, Tryd.ntmps6
    go_wp2_with fail
    refine hva.mono ?_
    rintro e w' ⟨rfl, B1⟩
    go_wp2_with fail
    go_ret2
    exact ⟨_, rfl, World.ownsRow_nil _ _ _ _, B1⟩
end Go.Proofs.YtmofakcpldbbmaaDoor
