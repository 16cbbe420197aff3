/- law02: WireReads. -/
import Derived.Test.YtofgcoapbocneaaLaw2g
import Derived.Test.YtofgcoapbocneaaMrd
namespace Go.Proofs.Ytofgcoapbocneaa
open Go.RowKit

/-- A fresh model Reader. -/
theorem Mst.new {w : World} {D : Nat} {v : Value} {l : List UInt8} (hv : Rv w v l.length (l.map vB)) (hl : Low D v) : Mst (w.alloc (.cells #[v, .int .i64 0] 44)) w.heap.size D (.ok l) :=
  .ok ⟨World.alloc_heap_new w _, hv.below ((Below.refl _ w).alloc (Nat.le_refl _) _), hl⟩

set_option maxRecDepth 20000 in
set_option maxHeartbeats 8000000 in
theorem law_WireReads (vr : Value) (raw : List UInt8) (v : Value) (xs : List Int) (at_ : Int) (c : UInt8) (vk : Value) (ks : List Int) (w : World) (hraw : Rv w vr raw.length (raw.map vB)) (hv : Rv w v xs.length (xs.map (Value.int .i64))) (hx : ∀ x ∈ xs, -9223372036854775808 ≤ x ∧ x ≤ 9223372036854775807)
    (hn : -9223372036854775808 ≤ at_ ∧ at_ ≤ 9223372036854775807) (hk : Rv w vk ks.length (ks.map (Value.int .i64))) (hkr : ∀ x ∈ ks, -9223372036854775808 ≤ x ∧ x ≤ 9223372036854775807) :
    Calls Try.prog 4 #[vr, v, .int .i64 at_, vB c, vk] w (RetT w) := by
  obtain ⟨ak, ck, rfl, hck, _⟩ := hk.opened
  have HN := Lib.hid hn
  have HK := Lib.hid hkr
  clear hn hkr
  unfold vB
  go_enter Try.func4, Try.ntmps4
  go_wp2_with fail
  refine (vals_any v xs w hv hx).mono ?_
  rintro e w1 ⟨ov, ms, rfl, hml, HC, hI⟩
  clear hv hx
  have R1 := hI.rvs
  have B1 := hI.bl
  have hln := encs_len2 ms HC.out
  have HLN : Hid ((encs ms).length ≤ 81000) := by show _ ≤ _; omega
  clear hI hln HC
  obtain ⟨ao, cap, rfl, hcap, _⟩ := R1.rv.opened
  go_wp2_with fail
  refine (rencode_any _ ms w1 R1 (by omega)).mono ?_
  rintro e w2 ⟨d, rfl, M2⟩
  have R2 := R1.belowb M2.2
  have B2 := bel B1 M2.2
  have h12 := M2.2.size
  have own2 := M2.1
  rw [List.length_map] at own2
  generalize encs ms = E at *
  obtain ⟨ad, cd, rfl⟩ := M2.len
  rw [List.length_map] at own2
  clear M2
  by_cases hz0 : (0 : Int) < (E.length : Int)
  all_goals
    first
    | (have hz : 0 < E.length := by omega
       obtain ⟨g, cap2, hg, hcd, ⟨x0, _⟩, _, _, _⟩ := own_store own2 0 hz (.bool true)
       cases hg
       go_wp2_with fail
       refine (around_nat at_ E.length hz HN.out.1 HN.out.2 (by have := HLN.out; omega) _).mono ?_
       rintro e w3 ⟨k, hkk, _, rfl, rfl⟩
       obtain ⟨g', cap3, hg, _, ⟨x1, hx1⟩, hfx, own3, hgr⟩ := own_store own2 k hkk (vB c)
       cases hg
       have hge := (own2.lt g rfl).1
       have B3 : Below w1.heap.size w2 (w2.setCell ⟨g, k, none⟩ (vB c)) := (Below.refl _ _).setCell (p := ⟨g, k, none⟩) hge _
       rw [← List.map_set] at own3
       unfold vB at own3 B3
       generalize hT : E.set k c = T at own3
       have HT : Hid (T.length = E.length) := by show _ = _; rw [← hT, List.length_set]
       have hRT : Rv (w2.setCell ⟨g, k, none⟩ (Value.int .u8 (c.toNat : Int))) (.slice (some ⟨g, 0, none⟩) E.length cd) T.length (T.map vB) := by rw [HT.out]; exact Rv.of_own own3
       go_wp2_with fail
       generalize w2.setCell ⟨g, k, none⟩ (Value.int .u8 (c.toNat : Int)) = w3 at *
       have lowT : Low w2.heap.size (.slice (some ⟨g, 0, none⟩) E.length cd) := fun g e => (own2.lt g e).2
       clear hT own3 hgr hfx hx1 own2
       generalize (some (⟨g, 0, none⟩ : Addr)) = ad at *)
    | (go_wp2_with fail
       obtain ⟨T, hT⟩ : ∃ T, T = E := ⟨_, rfl⟩
       obtain ⟨w3, hw3⟩ : ∃ w3, w3 = w2 := ⟨_, rfl⟩
       rw [← hw3]
       have B3 : Below w1.heap.size w2 w3 := by rw [hw3]; exact Below.refl _ _
       have HT : Hid (T.length = E.length) := by show _ = _; rw [hT]
       have hRT : Rv w3 (.slice ad E.length cd) T.length (T.map vB) := by rw [hT, hw3]; exact Rv.of_own own2
       have lowT : Low w2.heap.size (.slice ad E.length cd) := fun g e => (own2.lt g e).2
       clear hw3 hT own2)
  all_goals
    have HTL : Hid (T.length ≤ 81000) := by show _ ≤ _; rw [HT.out]; exact HLN.out
    have h23 := B3.size
    have B3w : Below w.heap.size w w3 := B2.trans (B3.mono B1.size)
    have R3 := R2.belowb B3
    have h13 : w1.heap.size ≤ w3.heap.size := by omega
    replace lowT := lowT.mono h23
    clear B1 B2 B3 R1 R2 R3 HLN hz0 h23 h12 h13
    refine (few_some vr raw 60 (by decide) w3 (hraw.below B3w)).mono ?_
    rintro e w4 ⟨v4, F, _, hF, rfl, M4, R4⟩
    obtain ⟨af, cf, rfl⟩ := M4.len
    have B34 := M4.2
    have low4 := M4.low
    rw [List.length_map] at R4 low4
    go_wp2_with fail
    obtain ⟨w5, hw5⟩ : ∃ w5, w5 = w4.alloc (.cells #[.slice af F.length cf, .slice ad E.length cd] 24) := ⟨_, rfl⟩
    rw [← hw5]
    have B45 : Below w4.heap.size w4 w5 := by rw [hw5]; exact (Below.refl _ w4).alloc (Nat.le_refl _) _
    have c50 : w5.cell? ⟨w4.heap.size, 0, none⟩ = some (.slice af F.length cf) := by rw [hw5]; simp
    have c51 : w5.cell? ⟨w4.heap.size, 1, none⟩ = some (.slice ad E.length cd) := by rw [hw5]; simp
    have B35 := bel B34 B45
    have h45 := B45.size
    have hRT5 := hRT.below B35
    have c51' := c51
    have lowT' := lowT
    rw [← HT.out] at hRT5 c51' lowT'
    have HALL : Hid (∀ i : Nat, i < 2 → ∃ (a : Option Addr) (X : List UInt8) (c : Nat), w5.cell? ⟨w4.heap.size, i, none⟩ = some (.slice a X.length c) ∧ Rv w5 (.slice a X.length c) X.length (X.map vB) ∧ X.length ≤ 81000 ∧ Low w5.heap.size (.slice a X.length c)) := by
      intro i hi
      have h01 : i = 0 ∨ i = 1 := by omega
      rcases h01 with rfl | rfl
      · exact ⟨af, F, cf, c50, R4.below B45, by omega, low4.mono h45⟩
      · exact ⟨_, T, cd, c51', hRT5, HTL.out, lowT'.mono (by have := B35.size; omega)⟩
    have B5 := B3w.trans (B35.mono B3w.size)
    have lt5 : w4.heap.size < w5.heap.size := by rw [hw5]; simp
    generalize w4.heap.size = ball at *
    clear c50 c51 hRT5 c51' lowT lowT' hw5 B34 B35 B45 low4 R4 hRT B3w HTL HT M4 h45
    go_loopw [13] (fun iv wr => ∃ i : Nat, iv = .int .i64 (i : Int) ∧ i ≤ 2 ∧ Below w5.heap.size w5 wr) (fun iv _ => 2 - (intOf iv).toNat)
    case atStart => exact ⟨0, rfl, by omega, Below.refl _ _⟩
    case round =>
      obtain ⟨i, rfl, hi, hBo⟩ := hrel
      by_cases hlt : i < 2
      · obtain ⟨aX, X, cX, hcX, hRX, hXl, hLX⟩ := HALL.out i hlt
        have hcX1 := (hBo.cell (p := ⟨ball, i, none⟩) lt5).trans hcX
        obtain ⟨wo, hwo⟩ : ∃ wo : World, wo = wr := ⟨_, rfl⟩
        rw [← hwo] at hBo hcX1
        subst hwo
        have hi2 : (i : Int) < 2 := by omega
        go_wp2_with fail
        refine (read_any _ X wo (hRX.below hBo) (by omega)).mono ?_
        rintro e w6 ⟨b6, v6, rfl, hb6, hv, T6, B6⟩
        have B56 := bel hBo B6
        have hcX2 := (B56.cell (p := ⟨ball, i, none⟩) lt5).trans hcX
        have hRX6 := hRX.below B56
        have h56 := B56.size
        have M6 := Mst.new hRX6 hLX
        have hl6 := T6.lt
        have hb65 : w5.heap.size ≤ b6 := by have := hBo.size; omega
        have hb6n : b6 ≠ w6.heap.size := by omega
        have T7 := T6.later ((Below.refl _ w6).alloc (Nat.le_refl _) (.cells #[.slice aX X.length cX, .int .i64 0] 44))
        have hv6 : v6.ownBlock ≠ some w6.heap.size := fun e => by
          have := (hv _ e).2
          omega
        have B57 := B56.alloc h56 (.cells #[.slice aX X.length cX, .int .i64 0] 44)
        clear hcX hRX hRX6 hcX1 T6 B6
        go_wp2_with fail
        go_loopw [16] (fun kv wr => ∃ (k : Nat) (s : RS), kv = .int .i64 (k : Int) ∧ k ≤ ks.length ∧ k ≤ 10 ∧ Rst wr b6 v6 X s ∧ Mst wr w6.heap.size w5.heap.size s ∧ Below w5.heap.size w5 wr) (fun kv _ => 10 - (intOf kv).toNat)
        case atStart => exact ⟨0, _, rfl, Nat.zero_le _, Nat.zero_le _, T7, M6, B57⟩
        case round =>
          clear T7 M6 B57 hBo hv hb6 hi2
          obtain ⟨k, s, rfl, hk1, hk2, TR, MR, hBr⟩ := hrel
          by_cases hkk2 : k < ks.length ∧ k < 10
          · obtain ⟨hka, hkb⟩ := hkk2
            obtain ⟨b3, off3, rfl, hcx⟩ := (((hk.below B5).below hBr).rd).cell (i := k) (u := .int .i64 ks[k]) (by simp [hka])
            have HX := Lib.hid (HK.out ks[k] (List.getElem_mem hka))
            generalize ks[k] = x at *
            go_wp2_with fail
            refine (around_nat x 6 (by decide) HX.out.1 HX.out.2 (by decide) _).mono ?_
            rintro e w7 ⟨k6, hk6, _, rfl, rfl⟩
            have hls := TR.left
            have hlm := MR.lt
            go_wp2_with fail
            refine (lread_any b6 v6 X s k6 _ TR (by omega)).mono ?_
            rintro e w8 ⟨vb, vl, rfl, T8, S8, R8, n1, n2⟩
            have M8 := MR.bstep S8 hb6n.symm hb65
            have B8 := S8.bel hBr hb65 TR.lt
            clear hcx TR MR S8 hBr
            go_wp2_with fail
            refine (mread_any w6.heap.size w5.heap.size h56 s k6 _ M8 (by omega)).mono ?_
            rintro e w9 ⟨vb2, vl2, rfl, M9, S9, r1, r2⟩
            have T9 := T8.other S9 hb6n hv6
            have B9 := S9.bel B8 h56 M8.lt
            have q1 := R8.b.bstep S9 (fun e => by have := n1 _ e; omega)
            have q2 := R8.l.bstep S9 (fun e => by have := n2 _ e; omega)
            clear R8 n1 n2 S9 T8 M8 B8
            go_wp2_with fail
            refine (same_any (rdV k6 s).1 vb vl vb2 vl2 _ q1 q2 r1 r2).mono ?_
            rintro e w10 ⟨rfl, B10⟩
            have T10 := T9.later B10
            have M10 := M9.later B10
            have B510 := bel B9 B10
            clear q1 q2 r1 r2 B10 T9 M9 B9
            have hE1 := rend_any _ _ _ _ _ T10
            go_wp2_with fail
            refine hE1.mono ?_
            rintro e w11 ⟨rfl, n11, hw11⟩
            have T11 : Rst w11 b6 v6 X (rdV k6 s).2 := by rw [hw11]; exact T10.later (belD (Below.refl _ _) _)
            have M11 : Mst w11 w6.heap.size w5.heap.size (rdV k6 s).2 := by rw [hw11]; exact M10.later (belD (Below.refl _ _) _)
            have B11 : Below w5.heap.size w5 w11 := by rw [hw11]; exact belD B510 _
            clear hw11 hE1 T10 M10 B510
            have hE2 := mend_any _ _ _ _ M11
            generalize hrr : rdEnd (rdV k6 s).2 = rr at *
            go_wp2_with fail
            refine hE2.mono ?_
            rintro e w12 ⟨rfl, n12, hw12⟩
            have T12 : Rst w12 b6 v6 X (rdV k6 s).2 := by rw [hw12]; exact T11.later (belD (Below.refl _ _) _)
            have M12 : Mst w12 w6.heap.size w5.heap.size (rdV k6 s).2 := by rw [hw12]; exact M11.later (belD (Below.refl _ _) _)
            have B12 : Below w5.heap.size w5 w12 := by rw [hw12]; exact belD B11 _
            clear hw12 hE2 T11 M11 B11 hrr
            go_wp2_with fail
            go_roundw
            case rel => exact ⟨k + 1, _, by go_num, by omega, by omega, T12, M12, B12⟩
            case measure => simp [intOf]; omega
          · have h3 : (k < ks.length ∧ ¬ k < 10) ∨ ¬ k < ks.length := by omega
            rcases h3 with ⟨ha, hb⟩ | ha
            all_goals
              go_wp2_with fail
              go_roundw
              case rel => exact ⟨i + 1, by go_num, by omega, hBr⟩
              case measure => simp [intOf]; omega
      · go_wp2_with fail
        refine (lives_any _).mono ?_
        rintro e w6 ⟨rfl, B6⟩
        go_wp2_with fail
        go_ret
        exact ⟨rfl, bel (bel B5 hBo) B6⟩
end Go.Proofs.Ytofgcoapbocneaa
