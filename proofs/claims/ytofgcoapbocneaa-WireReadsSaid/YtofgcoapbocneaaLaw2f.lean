/- law02: WireWrites. -/
import Derived.Test.YtofgcoapbocneaaLaw2e
namespace Go.Proofs.Ytofgcoapbocneaa
open Go.RowKit

theorem flatV_take (ms : VL) (k : Nat) : flatV (ms.take k) = (flatV ms).take (k * 5) := by
  induction ms generalizing k with
  | nil => simp [flatV]
  | cons p ms ih =>
    cases k with
    | zero => simp [flatV]
    | succ k =>
      have := ih k
      simp only [flatV, List.take_succ_cons, List.flatMap_cons] at this ⊢
      have e : (k + 1) * 5 - [Value.int .i64 p.1.k, .int .u64 (p.1.u : Int), .int .i64 p.1.n, p.2.1, p.2.2].length = k * 5 := by show (k + 1) * 5 - 5 = _; omega
      have t : List.take ((k + 1) * 5) [Value.int .i64 p.1.k, .int .u64 (p.1.u : Int), .int .i64 p.1.n, p.2.1, p.2.2] = [Value.int .i64 p.1.k, .int .u64 (p.1.u : Int), .int .i64 p.1.n, p.2.1, p.2.2] := List.take_of_length_le (by show 5 ≤ _; omega)
      rw [this, List.take_append, e, t]
theorem RvVs.up {w : World} {B B' : Nat} {c : Value} {ms : VL} (h : RvVs w B c ms) (hb : B ≤ B') : RvVs w B' c ms :=
  ⟨h.rv, fun g e => Nat.lt_of_lt_of_le (h.lo g e) hb, fun p hp => ⟨⟨(h.el p hp).1.b, (h.el p hp).1.l, fun g e => Nat.lt_of_lt_of_le ((h.el p hp).1.bl g e) hb, fun g e => Nat.lt_of_lt_of_le ((h.el p hp).1.ll g e) hb⟩, (h.el p hp).2⟩⟩
theorem RvVs.take {w : World} {B n cap : Nat} {ao : Option Addr} {ms : VL} (h : RvVs w B (.slice ao n cap) ms) (k : Nat) (hk : k ≤ ms.length) : RvVs w B (.slice ao k cap) (ms.take k) := by
  refine ⟨?_, fun g e => h.lo g (by cases ao <;> exact e), fun p hp => h.el p (List.mem_of_mem_take hp)⟩
  obtain ⟨a', c', e, h2, h3, h4, h5⟩ := h.rv
  cases e
  rw [List.length_take, Nat.min_eq_left hk, flatV_take]
  exact ⟨_, _, rfl, by omega, h3, h4, h5.take _⟩
theorem Made.rvB {w w' : World} {e : TypeId} {v : Value} {bs : List UInt8} (h : Made w w' e v (bs.map vB)) : Rv w' v bs.length (bs.map vB) := by
  have := h.rv
  rwa [List.length_map] at this
theorem News.bytes {w w1 w2 w5 : World} {ov v : Value} {ms : VL} (hI : VI w w1 ov ms) {e : TypeId} (ys : List UInt8) (hM : Made w1 w2 e v (ys.map vB)) (hb : Below w2.heap.size w2 w5) (hl : ys.length ≤ 1000) :
    News w w5 ov (⟨4, 0, 0, ys, []⟩, v, .slice none 0 0) := by
  have h1 := hI.bl.size
  have h2 := hb.size
  refine ⟨⟨hM.rvB.below hb, Rv.nil _, fun g hg => by have := (hM.1.lt g hg).2; omega, low_nil _⟩, (V.okB 4 (.inr rfl) ys hl).1, fun g hg => ?_⟩
  rcases hg with hg | hg
  · have := (hM.1.lt g hg).1
    exact ⟨by omega, fun e => by have := (hI.own.lt g e).2; omega⟩
  · cases hg
theorem News.ints {w w0 w1 w2 w5 : World} {ov v : Value} {ms : VL} (hI : VI w w0 ov ms) (h01 : w0.heap.size ≤ w1.heap.size) {e : TypeId} (ys : List Int) (hM : Made w1 w2 e v (ys.map (Value.int .i64))) (hb : Below w2.heap.size w2 w5) (hl : ys.length ≤ 1000)
    (hr : ∀ x ∈ ys, -9223372036854775808 ≤ x ∧ x ≤ 9223372036854775807) :
    News w w5 ov (⟨5, 0, 0, [], ys⟩, .slice none 0 0, v) := by
  have h1 := hI.bl.size
  have h2 := hb.size
  refine ⟨⟨Rv.nil _, ?_, low_nil _, fun g hg => by have := (hM.1.lt g hg).2; omega⟩, (V.okL ys hl hr).1, fun g hg => ?_⟩
  · have := hM.rv.below hb
    rwa [List.length_map] at this
  rcases hg with hg | hg
  · cases hg
  · have := (hM.1.lt g hg).1
    exact ⟨by omega, fun e => by have := (hI.own.lt g e).2; omega⟩

set_option maxRecDepth 20000 in
set_option maxHeartbeats 4000000 in
theorem law_WireWrites (v : Value) (xs : List Int) (u : BitVec 64) (n : Int) (vb : Value) (bs : List UInt8) (vl : Value) (ls : List Int) (w : World) (hv : Rv w v xs.length (xs.map (Value.int .i64))) (hx : ∀ x ∈ xs, -9223372036854775808 ≤ x ∧ x ≤ 9223372036854775807) (hn : -9223372036854775808 ≤ n ∧ n ≤ 9223372036854775807)
    (hb : Rv w vb bs.length (bs.map vB)) (hl : Rv w vl ls.length (ls.map (Value.int .i64))) (hlr : ∀ x ∈ ls, -9223372036854775808 ≤ x ∧ x ≤ 9223372036854775807) :
    Calls Try.prog 6 #[v, .int .u64 u.toNat, .int .i64 n, vb, vl] w (RetT w) := by
  have HU := Lib.hid (V.ok0 u.toNat u.isLt)
  have HN := Lib.hid (V.ok1 n hn)
  have HR := Lib.hid hlr
  clear hn hlr
  generalize u.toNat = u at *
  go_enter Try.func6, Try.ntmps6
  go_wp2_with fail
  refine (vals_any v xs w hv hx).mono ?_
  rintro e w1 ⟨ov, ms, rfl, hml, HC, hI⟩
  have hb1 := hb.below hI.bl
  have hl1 := hl.below hI.bl
  clear hv hx hb hl
  go_wp2_with fail
  refine (few_some vb bs 200 (by decide) w1 hb1).mono ?_
  rintro e w2 ⟨v2, ys, _, hy, rfl, M2, _⟩
  obtain ⟨a2, c2, rfl⟩ := M2.len
  rw [List.length_map] at M2
  go_wp2_with fail
  refine (ints_some vl ls 20 (by decide) w2 (hl1.below M2.2)).mono ?_
  rintro e w3 ⟨v3, zs, HZ, hz, rfl, M3, _⟩
  obtain ⟨a3, c3, rfl⟩ := M3.len
  rw [List.length_map] at M3
  have B13 := bel M2.2 M3.2
  clear hb1 hl1
  go_wp2_with (at_builtin; refine wpList_app2 _ rfl _ _ rfl Try.elV w.heap.size ov _ _ rfl (own_below hI.own (B13.alloc B13.size _)) (.slice (some ⟨w3.heap.size, 0, none⟩) 5 5) 5 [_, _, _, _, _, _, _, _, _, _, _, _, _, _, _, _, _, _, _, _, _, _, _, _, _] rfl (Rv.litH _ [_, _, _, _, _, _, _, _, _, _, _, _, _, _, _, _, _, _, _, _, _, _, _, _, _] _ 5 (by unfold maxLen; omega) _ rfl) (by simp) (by simp [Value.oneCell']) (by omega) (by have := hI.bl.size; have := B13.size; simp; omega) ?_; intro ov4 w4 hown4 hg4 hs4)
  have hI4 : VI w w4 ov4 (ms ++ [(⟨0, u, 0, [], []⟩, .slice none 0 0, .slice none 0 0), (⟨1, 0, n, [], []⟩, .slice none 0 0, .slice none 0 0), (⟨4, 0, 0, ys, []⟩, _, .slice none 0 0), (⟨5, 0, 0, [], zs⟩, .slice none 0 0, _), (⟨2, 0, 1, [], []⟩, .slice none 0 0, .slice none 0 0)]) :=
    hI.app (B13.alloc B13.size _) (fun p hp => by
      rcases List.mem_cons.1 hp with rfl | hp
      · exact News.nils _ _ _ _ HU.out.1 rfl rfl
      rcases List.mem_cons.1 hp with rfl | hp
      · exact News.nils _ _ _ _ HN.out.1 rfl rfl
      rcases List.mem_cons.1 hp with rfl | hp
      · exact News.bytes hI ys M2 (M3.2.alloc M3.2.size _) (by omega)
      rcases List.mem_cons.1 hp with rfl | hp
      · exact News.ints hI M2.2.size zs M3 ((Below.refl _ _).alloc (Nat.le_refl _) _) (by omega) (fun x hx => HR.out x (by rw [HZ.out] at hx; exact List.mem_of_mem_take hx))
      · rw [List.mem_singleton.1 hp]
        exact News.nils _ _ _ _ (V.okN 1 (.inr rfl)).1 rfl rfl) hown4 hg4 hs4
  have CA : Hid (∀ p ∈ ms ++ [(⟨0, u, 0, [], []⟩, Value.slice none 0 0, Value.slice none 0 0), (⟨1, 0, n, [], []⟩, .slice none 0 0, .slice none 0 0), (⟨4, 0, 0, ys, []⟩, .slice a2 ys.length c2, .slice none 0 0), (⟨5, 0, 0, [], zs⟩, .slice none 0 0, .slice a3 zs.length c3), (⟨2, 0, 1, [], []⟩, .slice none 0 0, .slice none 0 0)], p.1.Can) := fun p hp => by
    rcases List.mem_append.1 hp with hp | hp
    · exact HC.out p hp
    rcases List.mem_cons.1 hp with rfl | hp
    · exact HU.out.2
    rcases List.mem_cons.1 hp with rfl | hp
    · exact HN.out.2
    rcases List.mem_cons.1 hp with rfl | hp
    · exact (V.okB 4 (.inr rfl) ys (by omega)).2
    rcases List.mem_cons.1 hp with rfl | hp
    · exact (V.okL zs (by omega) (fun x hx => HR.out x (by rw [HZ.out] at hx; exact List.mem_of_mem_take hx))).2
    · rw [List.mem_singleton.1 hp]
      exact (V.okN 1 (.inr rfl)).2
  obtain ⟨all, hall⟩ : ∃ all, all = ms ++ [((⟨0, u, 0, [], []⟩ : V), Value.slice none 0 0, Value.slice none 0 0), (⟨1, 0, n, [], []⟩, .slice none 0 0, .slice none 0 0), (⟨4, 0, 0, ys, []⟩, .slice a2 ys.length c2, .slice none 0 0), (⟨5, 0, 0, [], zs⟩, .slice none 0 0, .slice a3 zs.length c3), (⟨2, 0, 1, [], []⟩, .slice none 0 0, .slice none 0 0)] := ⟨_, rfl⟩
  rw [← hall] at hI4 CA
  have hal : all.length ≤ 13 := by rw [hall]; simp; omega
  clear hall
  have R4 := hI4.rvs
  have B4 := hI4.bl
  clear hI hI4 HC HU HN HR HZ hown4 hg4 hs4 M2 M3 B13
  obtain ⟨ao, cap, rfl, hcap, _⟩ := R4.rv.opened
  go_loopw [13] (fun iv wr => ∃ (i : Nat) (v6 : Value), iv = .int .i64 (i : Int) ∧ i ≤ all.length ∧ Wr wr w4.heap.size v6 (encs (all.take i)) ∧ Below w4.heap.size w4 wr) (fun iv _ => all.length - (intOf iv).toNat)
  case atStart => exact ⟨0, _, rfl, Nat.zero_le _, Wr.new w4, (Below.refl _ w4).alloc (Nat.le_refl _) _⟩
  case round =>
    obtain ⟨i, v6, rfl, hi, hW, hB⟩ := hrel
    by_cases hlt : i < all.length
    · obtain ⟨b2, off2, cap2, hceq, hcap2, hb2, A⟩ := (R4.belowb hB).at5 hlt
      cases hceq
      have E4 := ((R4.belowb hB).el all[i] (List.getElem_mem hlt))
      have hsn := Lib.hid (encs_snoc all i hlt)
      generalize all[i] = p at *
      obtain ⟨m, vb, vl⟩ := p
      simp only at A E4 hsn
      have a0 := A.k0
      have a1 := A.k1
      have a2 := A.k2
      have a3 := A.k3
      have a4 := A.k4
      have hel := encs_len2 (all.take i) (fun p hp => CA.out p (List.mem_of_mem_take hp))
      have hel1 := encs_len2 (all.take (i + 1)) (fun p hp => CA.out p (List.mem_of_mem_take hp))
      rw [List.length_take] at hel hel1
      have HLN : Hid ((encs (all.take i)).length ≤ 1000000000) := by show _ ≤ _; omega
      have HL1 : Hid ((encs (all.take (i + 1))).length ≤ 1000000000) := by show _ ≤ _; omega
      clear hel hel1
      go_wp2_with fail
      refine (write_any _ _ _ m E4.2 vb vl _ hW E4.1 HLN.out).mono ?_
      rintro e w7 ⟨v7, rfl, W7, S7⟩
      have B7 := S7.bel hW hB (Nat.le_refl _)
      rw [← hsn.out] at W7
      have RK := ((R4.belowb B7).take (i + 1) (by omega))
      have hB7 := B7.size
      have hBr := Below.refl w7.heap.size w7
      have h0 : (0 : Int) ≤ (i : Int) + 1 := by omega
      have hwr : IntKind.i64.wrap ((i : Int) + 1) = (i : Int) + 1 := by rw [IntKind.wrap_i64]; omega
      have h1 : (i : Int) + 1 ≤ (cap : Int) := by omega
      clear a0 a1 a2 a3 a4 A E4 hW S7 hB hsn HLN
      go_wp2_with fail
      go_region_held3 (fun W' => Below w7.heap.size w7 W') (first | exact hBn | exact belD hBn _ | exact hBr.drew)
        (first
          | (go_at_call 16; have hS := (show Below w7.heap.size w7 _ by assumption); refine (wdone_any _ _ _ _ (W7.later hS) (by have := HL1.out; omega)).mono ?_; rintro e w8 ⟨d8, rfl, M8⟩; have hBn := bel hS M8.2)
          | (go_at_call 18; have hS := (show Below w7.heap.size w7 _ by assumption); refine (rencode_any _ (all.take (i + 1)) _ ((RK.belowb (hS.mono hB7)).up (Nat.le_trans hB7 hS.size)) (by rw [List.length_take]; omega)).mono ?_; rintro e w9 ⟨d9, rfl, M9⟩; have hBn := bel hS M9.2)
          | (go_at_call 30; have hS := (show Below w7.heap.size w7 _ by assumption); refine (sameBytes_refl _ _ (encs (all.take (i + 1))) _ (by first | exact M8.rvB | exact M8.rvB.below M9.2) (by first | exact M9.rvB | exact M9.rvB.below M8.2)).mono ?_; rintro e w10 ⟨rfl, n10, rfl⟩; have hBn := belD hS n10))
      all_goals
        go_wp2_with fail
        go_roundw
        case rel => exact ⟨i + 1, v7, by go_num, by omega, W7.later hBn, B7.trans (hBn.mono hB7)⟩
        case measure => simp [intOf]; omega
    · have B5 := bel B4 hB
      go_wp2_with fail
      refine (lives_any _).mono ?_
      rintro e w6 ⟨rfl, B6⟩
      go_wp2_with fail
      go_ret
      exact ⟨rfl, bel B5 B6⟩
end Go.Proofs.Ytofgcoapbocneaa
