/- law02: WireRound. -/
import Derived.Test.YtofgcoapbocneaaLawV
import Derived.Deep.RegionHeld3
namespace Go.Proofs.Ytofgcoapbocneaa
open Go.RowKit

/-- The five cells of an element of a list of values. -/
structure At5 (w : World) (b off : Nat) (m : V) (vb vl : Value) : Prop where
  k0 : w.cell? ⟨b, off, none⟩ = some (.int .i64 m.k)
  k1 : w.cell? ⟨b, off + 1, none⟩ = some (.int .u64 (m.u : Int))
  k2 : w.cell? ⟨b, off + 2, none⟩ = some (.int .i64 m.n)
  k3 : w.cell? ⟨b, off + 3, none⟩ = some vb
  k4 : w.cell? ⟨b, off + 4, none⟩ = some vl

theorem RvVs.at5 {w : World} {B : Nat} {c : Value} {ms : VL} (h : RvVs w B c ms) {i : Nat} (hi : i < ms.length) :
    ∃ b off cap, c = .slice (some ⟨b, off, none⟩) ms.length cap ∧ ms.length ≤ cap ∧ b < B ∧ At5 w b (off + i * 5) ms[i].1 ms[i].2.1 ms[i].2.2 := by
  have hlo := h.lo
  obtain ⟨ao, cap, rfl, hcap, hrd⟩ := h.rv.opened
  have hfl : ∀ j, j < 5 → (flatV ms)[5 * i + j]? = [Value.int .i64 ms[i].1.k, .int .u64 (ms[i].1.u : Int), .int .i64 ms[i].1.n, ms[i].2.1, ms[i].2.2][j]? := by
    intro j hj; rw [flatV_at ms i j hj, List.getElem?_eq_getElem hi]; rfl
  obtain ⟨b2, off2, rfl, hc0⟩ := h.rv.rd.cell (hfl 0 (by omega))
  have hc1 := h.rv.rd.at (hfl 1 (by omega))
  have hc2 := h.rv.rd.at (hfl 2 (by omega))
  have hc3 := h.rv.rd.at (hfl 3 (by omega))
  have hc4 := h.rv.rd.at (hfl 4 (by omega))
  rw [show off2 + (5 * i + 0) = off2 + i * 5 from by omega] at hc0
  rw [show off2 + (5 * i + 1) = off2 + i * 5 + 1 from by omega] at hc1
  rw [show off2 + (5 * i + 2) = off2 + i * 5 + 2 from by omega] at hc2
  rw [show off2 + (5 * i + 3) = off2 + i * 5 + 3 from by omega] at hc3
  rw [show off2 + (5 * i + 4) = off2 + i * 5 + 4 from by omega] at hc4
  exact ⟨b2, off2, cap, rfl, hcap, hlo b2 rfl, hc0, hc1, hc2, hc3, hc4⟩
theorem At5.below {w w' : World} {B b off : Nat} {m : V} {vb vl : Value} (h : At5 w b off m vb vl) (hb : Below B w w') (hlt : b < B) : At5 w' b off m vb vl :=
  ⟨(hb.cell (p := ⟨b, off, none⟩) hlt).trans h.k0, (hb.cell (p := ⟨b, off + 1, none⟩) hlt).trans h.k1, (hb.cell (p := ⟨b, off + 2, none⟩) hlt).trans h.k2, (hb.cell (p := ⟨b, off + 3, none⟩) hlt).trans h.k3, (hb.cell (p := ⟨b, off + 4, none⟩) hlt).trans h.k4⟩

set_option maxRecDepth 20000 in
set_option maxHeartbeats 4000000 in
theorem law_WireRound (v : Value) (xs : List Int) (u : BitVec 64) (n : Int) (w : World) (hv : Rv w v xs.length (xs.map (Value.int .i64))) (hx : ∀ x ∈ xs, -9223372036854775808 ≤ x ∧ x ≤ 9223372036854775807) (hn : -9223372036854775808 ≤ n ∧ n ≤ 9223372036854775807) :
    Calls Try.prog 7 #[v, .int .u64 u.toNat, .int .i64 n] w (RetT w) := by
  have HU := Lib.hid (V.ok0 u.toNat u.isLt)
  have HN := Lib.hid (V.ok1 n hn)
  clear hn
  generalize u.toNat = u at *
  go_enter Try.func7, Try.ntmps7
  go_wp2_with fail
  refine (vals_any v xs w hv hx).mono ?_
  rintro e w1 ⟨ov, ms, rfl, hml, HC, hI⟩
  clear hv hx
  go_wp2_with (at_builtin; refine wpList_app2 _ rfl _ _ rfl Try.elV w.heap.size ov _ _ rfl (own_below hI.own ((Below.refl _ w1).alloc (Nat.le_refl _) _)) (.slice (some ⟨w1.heap.size, 0, none⟩) 2 2) 2 [_, _, _, _, _, _, _, _, _, _] rfl (Rv.litH _ [_, _, _, _, _, _, _, _, _, _] _ 2 (by unfold maxLen; omega) _ rfl) (by simp) (by simp [Value.oneCell']) (by omega) (by have := hI.bl.size; simp; omega) ?_; intro ov2 w2 hown2 hg2 hs2)
  have hI2 : VI w w2 ov2 (ms ++ [(⟨0, u, 0, [], []⟩, .slice none 0 0, .slice none 0 0), (⟨1, 0, n, [], []⟩, .slice none 0 0, .slice none 0 0)]) :=
    hI.app ((Below.refl _ w1).alloc (Nat.le_refl _) _) (fun p hp => by
      rcases List.mem_cons.1 hp with rfl | hp
      · exact News.nils _ _ _ _ HU.out.1 rfl rfl
      · rw [List.mem_singleton.1 hp]
        exact News.nils _ _ _ _ HN.out.1 rfl rfl) hown2 hg2 hs2
  have hal : (ms ++ [((⟨0, u, 0, [], []⟩ : V), Value.slice none 0 0, Value.slice none 0 0), (⟨1, 0, n, [], []⟩, .slice none 0 0, .slice none 0 0)]).length ≤ 10 := by simp; omega
  have CA := can_snoc (vb := .slice none 0 0) (vl := .slice none 0 0) (can_snoc (vb := .slice none 0 0) (vl := .slice none 0 0) HC HU.out.2) HN.out.2
  rw [List.append_assoc, List.cons_append, List.nil_append] at CA
  generalize ms ++ [((⟨0, u, 0, [], []⟩ : V), Value.slice none 0 0, Value.slice none 0 0), (⟨1, 0, n, [], []⟩, .slice none 0 0, .slice none 0 0)] = all at hI2 hal CA
  have R2 := hI2.rvs
  have B2 := hI2.bl
  have EL : Hid (∀ p ∈ all, p.1.Ok ∧ p.1.Can) := fun p hp => ⟨(hI2.el p hp).2, CA.out p hp⟩
  have hln := encs_len all (fun p hp => (EL.out p hp).1)
  have HLN : Hid ((encs all).length ≤ 100000000) := by show _ ≤ _; omega
  clear HC CA hI hown2 hg2 hs2 hI2 HU HN hln
  obtain ⟨ao, cap, rfl, hcap, _⟩ := R2.rv.opened
  refine (encode_any _ all w2 R2 (by omega)).mono ?_
  rintro e w3 ⟨d, rfl, M3⟩
  have R3 := R2.belowb M3.2
  have B3 := bel B2 M3.2
  have h23 := M3.2.size
  have hd3 := M3.rv
  rw [List.length_map] at hd3
  go_wp2_with fail
  refine (read_any d (encs all) w3 hd3 (by have := HLN.out; omega)).mono ?_
  rintro e w4 ⟨b, v4, rfl, hb4, _, T4, B4⟩
  go_wp2_with fail
  go_loopw [9] (fun iv wr => ∃ i : Nat, iv = .int .i64 (i : Int) ∧ i ≤ all.length ∧ Rst wr b v4 (encs all) (.ok (encs (all.drop i))) ∧ Below w3.heap.size w3 wr) (fun iv _ => all.length - (intOf iv).toNat)
  case atStart => exact ⟨0, rfl, Nat.zero_le _, T4, B4⟩
  case round =>
    obtain ⟨i, rfl, hi, T, hB⟩ := hrel
    by_cases hlt : i < all.length
    · obtain ⟨b2, off2, cap2, hceq, hcap2, hb2, A⟩ := (R3.belowb (hB.mono h23)).at5 hlt
      cases hceq
      have HE := Lib.hid (EL.out all[i] (List.getElem_mem hlt))
      have E3 := (R3.el all[i] (List.getElem_mem hlt)).1
      rw [encs_drop all i hlt] at T
      generalize all[i] = p at *
      obtain ⟨m, vb, vl⟩ := p
      simp only at A HE E3 T
      have a0 := A.k0
      have a1 := A.k1
      have a2 := A.k2
      have a3 := A.k3
      have a4 := A.k4
      have hbl := T.lt
      have hb23 : b2 < w3.heap.size := by omega
      go_wp2_with fail
      go_region_held3 (fun W' => W'.cell? ⟨b2, off2 + i * 5, none⟩ = some (.int .i64 m.k) ∧ W'.cell? ⟨b2, off2 + i * 5 + 1, none⟩ = some (.int .u64 (m.u : Int)) ∧ W'.cell? ⟨b2, off2 + i * 5 + 2, none⟩ = some (.int .i64 m.n) ∧ W'.cell? ⟨b2, off2 + i * 5 + 3, none⟩ = some vb ∧ W'.cell? ⟨b2, off2 + i * 5 + 4, none⟩ = some vl)
        (first | exact ⟨A8.k0, A8.k1, A8.k2, A8.k3, A8.k4⟩ | exact ⟨A7.k0, A7.k1, A7.k2, A7.k3, A7.k4⟩ | exact ⟨A.k0, A.k1, A.k2, A.k3, A.k4⟩)
        (first
          | (go_at_call 23; refine (lread_enc b v4 _ m HE.out.1 HE.out.2 _ _ (T.later ((Below.refl _ wr).drew)) (by have := HLN.out; omega)).mono ?_; rintro e w7 ⟨vb7, vl7, rfl, T7, S7, RV7, _, _⟩; have B7 := S7.bel hB.drew hb4 hbl; have A7 := (A.below (Below.refl w3.heap.size wr).drew hb23).below (S7.below _ hb4 hbl) hb23)
          | (go_at_call 22; refine (same_any m _ _ _ _ _ RV7.b RV7.l (E3.belowb (B7.mono h23)).b (E3.belowb (B7.mono h23)).l).mono ?_; rintro e w8 ⟨rfl, B8⟩; have A8 := A7.below B8 (by have := B7.size; omega)))
      go_wp2_with fail
      go_roundw
      case rel => exact ⟨i + 1, by go_num, by omega, T7.later B8, bel B7 B8⟩
      case measure => simp [intOf]; omega
    · obtain rfl : i = all.length := by omega
      rw [List.drop_length] at T
      go_wp2_with fail
      have hE := rend_any _ _ _ _ _ T
      simp only [encs, List.flatMap_nil, rdEnd] at hE
      refine hE.mono ?_
      rintro e w5 ⟨rfl, n5, hw5⟩
      have B5 : Below w.heap.size w w5 := by rw [hw5]; exact belD (bel B3 hB) _
      clear hw5 hE T hB
      go_wp2_with fail
      refine (lives_any _).mono ?_
      rintro e w6 ⟨rfl, B6⟩
      go_wp2_with fail
      go_ret
      exact ⟨rfl, bel B5 B6⟩
end Go.Proofs.Ytofgcoapbocneaa
