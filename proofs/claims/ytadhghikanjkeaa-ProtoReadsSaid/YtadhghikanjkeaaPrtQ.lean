/- The model's low, Framed, Core. -/
import Derived.Test.YtadhghikanjkeaaPrtN
import Derived.Test.YtadhghikanjkeaaRefS
import Derived.Test.YtadhghikanjkeaaRefW
namespace Go.Proofs.Ytadhghikanjkeaa
open Go.RowKit

theorem Made.later {w0 W W' : World} {e : TypeId} {v : Value} {us : List Value} (h : Made w0 W e v us) (B : Below W.heap.size W W') : Made w0 W' e v us := ⟨own_below h.1 B, bel h.2 B⟩
theorem Made.app {w0 W1 W2 : World} {e : TypeId} {v v' : Value} {us news : List Value} {n : Nat} (h : Made w0 W1 e v us) (ho : W2.ownsRow w0.heap.size e 1 v' (us.length + n) (us ++ news)) (hn : news.length = n) (hg : W1.grownBy W2 v.ownBlock) : Made w0 W2 e v' (us ++ news) :=
  ⟨by rw [List.length_append, hn]; exact ho, h.2.grown hg h.2.size (fun g hg' => (h.1.lt g hg').1)⟩
theorem Made.none (w0 : World) (e : TypeId) : Made w0 w0 e (.slice none 0 0) [] := ⟨World.ownsRow_nil _ _ _ _, Below.refl _ _⟩
theorem Made.rvB {w0 W : World} {v : Value} {bs : List UInt8} (h : Made w0 W 5 v (bs.map vB)) : Rv W v bs.length (bs.map vB) := by
  have := h.rv
  rwa [List.length_map] at this

theorem lowL_snoc (k n i : Nat) (hi : i < k) : (lowL k n).take (i + 1) = (lowL k n).take i ++ [UInt8.ofNat (n / 256 ^ i)] := by
  rw [List.take_add_one, lowL_get _ _ _ hi]
  rfl

set_option maxRecDepth 20000 in
set_option maxHeartbeats 1000000 in
theorem low_any (n many : Nat) (w : World) (hn : n < 18446744073709551616) (hm : many ≤ 8) :
    Calls Try.prog 38 #[.int .u64 (n : Int), .int .i64 (many : Int)] w (RetMade w 5 ((lowL many n).map vB)) := by
  have HN := Lib.hid hn
  clear hn
  go_enter Try.func38, Try.ntmps38
  go_wp2_with fail
  go_loopw [0, 5, 6] (fun nv lv iv wr => ∃ (i m : Nat), nv = .int .u64 (m : Int) ∧ m = n / 256 ^ i ∧ iv = .int .i64 (i : Int) ∧ i ≤ many ∧ Made w wr 5 lv (((lowL many n).take i).map vB)) (fun _ _ iv _ => many - (intOf iv).toNat)
  case atStart => exact ⟨0, n, rfl, by simp, by first | rfl | trivial, by omega, Made.none w _⟩
  case round =>
    obtain ⟨i, m, rfl, hmi, rfl, hi, M⟩ := hrel
    have HMI := Lib.hid hmi
    have hm64 : m < 18446744073709551616 := by rw [hmi]; exact Nat.lt_of_le_of_lt (Nat.div_le_self _ _) HN.out
    have HM64 := Lib.hid hm64
    clear hmi hm64
    have htl : (((lowL many n).take i).map vB).length = i := by rw [List.length_map, List.length_take, lowL_len]; omega
    by_cases hlt : i < many
    · have hlti : (i : Int) < (many : Int) := by omega
      have hsz := M.2.size
      go_wp2_with (at_builtin; refine wpList_app2 _ rfl _ _ rfl Try.elB w.heap.size _ _ _ rfl (M.1.alloc _) _ 1 [_] rfl (Rv.one _ _ _) rfl (ones1 _ rfl) (by omega) (by simp only [World.size_alloc]; omega) ?_; intro v2 w2 hown2 hg2 _; refine later ?_)
      have M2 : Made w w2 5 v2 (((lowL many n).take (i + 1)).map vB) := by
        have h := (M.later ((Below.refl _ _).alloc (Nat.le_refl _) _)).app hown2 rfl hg2
        rw [lowL_snoc _ _ _ hlt, List.map_append, ← HMI.out, List.map_singleton, ← byte_low]
        exact h
      have hw : IntKind.u64.wrap ((m : Int) / 256) = ((m / 256 : Nat) : Int) := by have := HM64.out; rw [IntKind.wrap_u64]; omega
      clear hown2 hg2 M
      refine Later.in ?_
      go_wp2_with fail
      go_roundw
      case rel => exact ⟨i + 1, m / 256, by simp, by rw [HMI.out, Nat.div_div_eq_div_mul, Nat.pow_succ], by go_num, by omega, M2⟩
      case measure => simp [intOf]; omega
    · obtain rfl : i = many := by omega
      have ht : (lowL i n).take i = lowL i n := List.take_of_length_le (by rw [lowL_len]; omega)
      rw [ht] at M
      have hnlt : ¬ (i : Int) < (i : Int) := by omega
      go_wp2_with fail
      go_ret
      exact ⟨_, rfl, M⟩

set_option maxRecDepth 20000 in
set_option maxHeartbeats 1000000 in
theorem framed_any (v : Value) (c : List UInt8) (w : World) (hc : Rv w v c.length (c.map vB)) (hl : c.length ≤ 2000000) :
    Calls Try.prog 13 #[v] w (RetMade w 5 ((framedP c).map vB)) := by
  obtain ⟨ac, cc, rfl, hcc, _⟩ := hc.opened
  have hlh : lenH (c.length : Int) = lowL 8 (sumI lenL [(c.length : Int)]).toNat := rfl
  have hch : coreH c = lowL 8 (bytesB msgL c).toNat := rfl
  have HLH := Lib.hid hlh
  have HCH := Lib.hid hch
  clear hlh hch
  have hwl : IntKind.u64.wrap (c.length : Int) = (c.length : Int) := by rw [IntKind.wrap_u64]; omega
  go_enter Try.func13, Try.ntmps13
  go_wp2_with fail
  refine (low_any c.length 4 w (by omega) (by omega)).mono ?_
  rintro e w1 ⟨v1, rfl, M1⟩
  obtain ⟨a1, c1, rfl, _, _⟩ := M1.rvB.opened
  have hl4 : (lowL 4 c.length).length = 4 := lowL_len _ _
  rw [hl4]
  go_wp2_with fail
  refine (rsum_any _ _ [(c.length : Int)] _ (by have := Rv.one w1 (.int .i64 (c.length : Int)) 3; simpa using this) (by decide) (by simp)).mono ?_
  rintro e w2 ⟨rfl, B2⟩
  have M2 := (M1.later ((Below.refl _ _).alloc (Nat.le_refl _) (.cells #[.int .i64 (c.length : Int)] 3))).later B2
  clear M1 B2
  go_wp2_with fail
  refine (low_any (sumI lenL [(c.length : Int)]).toNat 8 w2 (sumI lenL [(c.length : Int)]).isLt (by omega)).mono ?_
  rintro e w3 ⟨v3, rfl, M3⟩
  rw [← HLH.out] at M3
  have M4 := M2.later M3.2
  have R3 := M3.rvB
  rw [lenH_len] at R3
  clear M2 M3
  have hb4 := M4.2.size
  go_wp2_with (at_builtin; refine wpList_app2 _ rfl _ _ rfl Try.elB w.heap.size _ _ _ rfl M4.1 _ 8 _ rfl R3 (by rw [List.length_map, lenH_len]) (ones_B _) (by rw [List.length_map, hl4]; omega) hb4 ?_; intro v5 w5 O5 g5 _; refine later ?_)
  have M5 := M4.app O5 (by rw [List.length_map, lenH_len]) g5
  clear M4 O5 g5 R3 hb4
  refine Later.in ?_
  have hb5 := M5.2.size
  go_wp2_with (at_builtin; refine wpList_app2 _ rfl _ _ rfl Try.elB w.heap.size _ _ _ rfl M5.1 _ c.length _ rfl (hc.below M5.2) (by rw [List.length_map, Nat.mul_one]) (ones_B _) (by simp only [List.length_append, List.length_map, lenH_len, hl4]; omega) hb5 ?_; intro v6 w6 O6 g6 _; refine later ?_)
  have M6 := M5.app O6 (by rw [List.length_map]) g6
  clear M5 O6 g6 hb5
  refine Later.in ?_
  go_wp2_with fail
  refine (rbytes_any _ _ c _ (hc.below M6.2) (by decide) (by omega)).mono ?_
  rintro e w7 ⟨rfl, B7⟩
  have M7 := M6.later B7
  clear M6 B7
  go_wp2_with fail
  refine (low_any (bytesB msgL c).toNat 8 w7 (bytesB msgL c).isLt (by omega)).mono ?_
  rintro e w8 ⟨v8, rfl, M8⟩
  rw [← HCH.out] at M8
  have M9 := M7.later M8.2
  have R8 := M8.rvB
  rw [coreH_len] at R8
  clear M7 M8
  have hb9 := M9.2.size
  go_wp2_with (at_builtin; refine wpList_app2 _ rfl _ _ rfl Try.elB w.heap.size _ _ _ rfl M9.1 _ 8 _ rfl R8 (by rw [List.length_map, coreH_len]) (ones_B _) (by simp only [List.length_append, List.length_map, lenH_len, hl4]; omega) hb9 ?_; intro v10 w10 O10 g10 _; refine later ?_)
  have M10 := M9.app O10 (by rw [List.length_map, coreH_len]) g10
  clear M9 O10 g10 hb9
  refine Later.in ?_
  go_wp2_with fail
  go_ret
  refine ⟨v10, rfl, ?_⟩
  simpa only [framedP, List.map_append, List.append_assoc] using M10

/-- Where Core stands: the message's block; w0 is the world behind it. -/
def CoM (w0 : World) (b : Nat) (x1 x2 x3 x4 : Int) (bv fv : Value) : Prop := w0.heap[b]? = some (msgR x1 x2 x3 x4 bv fv) ∧ b < w0.heap.size
theorem CoM.later {w0 W : World} {b : Nat} {x1 x2 x3 x4 : Int} {bv fv : Value} (h : CoM w0 b x1 x2 x3 x4 bv fv) (B : Below w0.heap.size w0 W) : W.heap[b]? = some (msgR x1 x2 x3 x4 bv fv) := (B.block b h.2).trans h.1

theorem msgR_c4 {W : World} {b : Nat} {x1 x2 x3 x4 : Int} {bv fv : Value} (h : W.heap[b]? = some (msgR x1 x2 x3 x4 bv fv)) : W.cell? ⟨b, 4, none⟩ = some bv := by unfold msgR at h; simp [World.cell?, h]
theorem msgR_c5 {W : World} {b : Nat} {x1 x2 x3 x4 : Int} {bv fv : Value} (h : W.heap[b]? = some (msgR x1 x2 x3 x4 bv fv)) : W.cell? ⟨b, 5, none⟩ = some fv := by unfold msgR at h; simp [World.cell?, h]
theorem list4 {W : World} {b : Nat} {x0 x1 x2 x3 : Int} {T : TypeId} (h : W.heap[b]? = some (.cells #[.int .i64 x0, .int .i64 x1, .int .i64 x2, .int .i64 x3] T (0, 0))) (i : Nat) (x : Int) (hx : [x0, x1, x2, x3][i]? = some x) : W.cell? ⟨b, i, none⟩ = some (.int .i64 x) := by
  match i, hx with
  | 0, hx => cases hx; simp [World.cell?, h]
  | 1, hx => cases hx; simp [World.cell?, h]
  | 2, hx => cases hx; simp [World.cell?, h]
  | 3, hx => cases hx; simp [World.cell?, h]
theorem flat_snoc (l : List Int) (i : Nat) (x : Int) (h : l[i]? = some x) : (l.take (i + 1)).flatMap zvar = (l.take i).flatMap zvar ++ zvar x := by
  obtain ⟨hi, hx⟩ := List.getElem?_eq_some_iff.1 h
  rw [List.take_succ_eq_append_getElem hi, List.flatMap_append, hx]
  simp

theorem fcell3 {W : World} {g o cf : Nat} {l : List F3} (h : Rv W (.slice (some ⟨g, o, none⟩) l.length cf) l.length (fcells l)) {j : Nat} (hj : j < l.length) :
    W.cell? ⟨g, o + j * 3, none⟩ = some (.int .i64 l[j].r) ∧ W.cell? ⟨g, o + j * 3 + 1, none⟩ = some (.int .i64 l[j].s) ∧ W.cell? ⟨g, o + j * 3 + 2, none⟩ = some (.int .i64 l[j].e) := by
  obtain ⟨g1, g2, g3⟩ := fcells_at hj
  obtain ⟨b1, o1, e1, c1⟩ := h.rd.cell g1
  cases e1
  obtain ⟨b2, o2, e2, c2⟩ := h.rd.cell g2
  cases e2
  obtain ⟨b3, o3, e3, c3⟩ := h.rd.cell g3
  cases e3
  rw [← Nat.add_assoc] at c2 c3
  exact ⟨c1, c2, c3⟩
theorem fsome {W : World} {af : Option Addr} {cf : Nat} {l : List F3} (h : Rv W (.slice af l.length cf) l.length (fcells l)) {j : Nat} (hj : j < l.length) : ∃ g o, af = some ⟨g, o, none⟩ := by
  obtain ⟨g1, _, _⟩ := fcells_at hj
  obtain ⟨b1, o1, e1, _⟩ := h.rd.cell g1
  exact ⟨b1, o1, e1⟩

set_option maxRecDepth 20000 in
set_option maxHeartbeats 1000000 in
theorem core_any (m : Msg) (ab af : Option Addr) (cb cf : Nat) (w : World) (hm : Cells6 w m ab af cb cf) (hv : validM m = true) :
    Calls Try.prog 14 #[msgV m ab af cb cf] w (RetMade w 5 ((coreP m).map vB)) := by
  have hf := hm.fnd
  have hbd := hm.body
  have hv0 := hv
  simp only [validM, headM, Bool.and_eq_true, inR_iff, decide_eq_true_eq] at hv0
  obtain ⟨⟨⟨⟨⟨⟨hk, hc⟩, hv1⟩, ho⟩, hbl⟩, hfl⟩, hall⟩ := hv0
  have HALL := Lib.hid hall
  have HV := Lib.hid hv
  have h4 : ∀ (i : Nat) (x : Int), [m.k, m.c, m.v, m.o][i]? = some x → -9223372036854775808 ≤ x ∧ x ≤ 9223372036854775807 := by
    intro i x hx
    match i, hx with
    | 0, hx => cases hx; omega
    | 1, hx => cases hx; omega
    | 2, hx => cases hx; omega
    | 3, hx => cases hx; omega
  have H4 := Lib.hid h4
  clear hall hv h4 hk hc hv1 ho
  unfold msgV
  go_enter Try.func14, Try.ntmps14
  go_wp2_with fail
  have hC : CoM ((w.alloc (.cells #[.int .i64 m.k, .int .i64 m.c, .int .i64 m.v, .int .i64 m.o, .slice ab m.body.length cb, .slice af m.fnd.length cf] 27)).alloc (.cells #[.int .i64 m.k, .int .i64 m.c, .int .i64 m.v, .int .i64 m.o] 3)) w.heap.size m.k m.c m.v m.o (.slice ab m.body.length cb) (.slice af m.fnd.length cf) :=
    ⟨(Below.heap_alloc _ _ _ (by simp)).trans (World.alloc_heap_new w _), by simp; omega⟩
  have hL : ((w.alloc (.cells #[.int .i64 m.k, .int .i64 m.c, .int .i64 m.v, .int .i64 m.o, .slice ab m.body.length cb, .slice af m.fnd.length cf] 27)).alloc (.cells #[.int .i64 m.k, .int .i64 m.c, .int .i64 m.v, .int .i64 m.o] 3)).heap[w.heap.size + 1]? = some (.cells #[.int .i64 m.k, .int .i64 m.c, .int .i64 m.v, .int .i64 m.o] 3) := by
    have := World.alloc_heap_new (w.alloc (.cells #[.int .i64 m.k, .int .i64 m.c, .int .i64 m.v, .int .i64 m.o, .slice ab m.body.length cb, .slice af m.fnd.length cf] 27)) (.cells #[.int .i64 m.k, .int .i64 m.c, .int .i64 m.v, .int .i64 m.o] 3)
    rwa [World.size_alloc] at this
  have hB0 : Below w.heap.size w ((w.alloc (.cells #[.int .i64 m.k, .int .i64 m.c, .int .i64 m.v, .int .i64 m.o, .slice ab m.body.length cb, .slice af m.fnd.length cf] 27)).alloc (.cells #[.int .i64 m.k, .int .i64 m.c, .int .i64 m.v, .int .i64 m.o] 3)) := ((Below.refl _ w).alloc (Nat.le_refl _) _).alloc (by simp) _
  have hs0 : ((w.alloc (.cells #[.int .i64 m.k, .int .i64 m.c, .int .i64 m.v, .int .i64 m.o, .slice ab m.body.length cb, .slice af m.fnd.length cf] 27)).alloc (.cells #[.int .i64 m.k, .int .i64 m.c, .int .i64 m.v, .int .i64 m.o] 3)).heap.size = w.heap.size + 2 := by simp
  obtain ⟨w0, hw0⟩ : ∃ w0, (w.alloc (.cells #[.int .i64 m.k, .int .i64 m.c, .int .i64 m.v, .int .i64 m.o, .slice ab m.body.length cb, .slice af m.fnd.length cf] 27)).alloc (.cells #[.int .i64 m.k, .int .i64 m.c, .int .i64 m.v, .int .i64 m.o] 3) = w0 := ⟨_, rfl⟩
  rw [hw0] at hC hL hB0 hs0 ⊢
  have HS0 := Lib.hid hs0
  clear hw0 hs0
  go_loopw [3, 5] (fun ov iv wr => ∃ (i : Nat) (pre : List UInt8), iv = .int .i64 (i : Int) ∧ i ≤ 4 ∧ Hid (pre = ([m.k, m.c, m.v, m.o].take i).flatMap zvar) ∧ pre.length ≤ 10 * i ∧ Made w0 wr 5 ov (pre.map vB)) (fun _ iv _ => 4 - (intOf iv).toNat)
  case atStart => exact ⟨0, [], by first | rfl | trivial, by omega, Lib.hid rfl, by simp, Made.none w0 _⟩
  case round =>
    obtain ⟨i, pre, rfl, hi, HP, hpl, M⟩ := hrel
    by_cases hlt : i < 4
    · obtain ⟨x, hx⟩ : ∃ x, [m.k, m.c, m.v, m.o][i]? = some x := ⟨_, List.getElem?_eq_getElem (show i < [m.k, m.c, m.v, m.o].length from hlt)⟩
      have hx64 := H4.out i x hx
      have hcell := list4 ((M.2.block _ (by have := HS0.out; omega)).trans hL) i x hx
      have HX := Lib.hid hx
      have HX64 := Lib.hid hx64
      clear hx hx64
      go_wp2_with fail
      refine (eint_any x wr HX64.out.1 HX64.out.2).mono ?_
      rintro e w1 ⟨v1, rfl, M1⟩
      have M2 := M.later M1.2
      have R1 := M1.rvB
      have hzl := zvar_len x
      clear M M1 hcell
      have hb2 := M2.2.size
      go_wp2_with (at_builtin; refine wpList_app2 _ rfl _ _ rfl Try.elB w0.heap.size _ _ _ rfl M2.1 _ (zvar x).length _ rfl R1 (by rw [List.length_map, Nat.mul_one]) (ones_B _) (by rw [List.length_map]; omega) hb2 ?_; intro v3 w3 O3 g3 _; refine later ?_)
      have M3 := M2.app O3 (by rw [List.length_map]) g3
      rw [← List.map_append] at M3
      clear M2 O3 g3 R1 hb2
      refine Later.in ?_
      go_wp2_with fail
      go_roundw
      case rel => exact ⟨i + 1, pre ++ zvar x, by go_num, by omega, Lib.hid (by rw [flat_snoc _ _ _ HX.out, HP.out]), by rw [List.length_append]; omega, M3⟩
      case measure => simp [intOf]; omega
    · obtain rfl : i = 4 := by omega
      have hpre : pre = zvar m.k ++ (zvar m.c ++ (zvar m.v ++ zvar m.o)) := by rw [HP.out]; simp [List.flatMap]
      have HPRE := Lib.hid hpre
      clear hpre HP
      have k4 := msgR_c4 (hC.later M.2)
      have k5 := msgR_c5 (hC.later M.2)
      go_wp2_with fail
      refine (eraw_any _ m.body wr ((hbd.below hB0).below M.2) (by omega)).mono ?_
      rintro e w1 ⟨v1, rfl, M1⟩
      have M2 := M.later M1.2
      have R1 := M1.rvB
      have hrl : (rawW m.body).length ≤ m.body.length + 10 := by have := uvar_len m.body.length; rw [rawW, List.length_append]; omega
      clear M M1 k4 k5
      have hb21 := M2.2.size
      go_wp2_with (at_builtin; refine wpList_app2 _ rfl _ _ rfl Try.elB w0.heap.size _ _ _ rfl M2.1 _ (rawW m.body).length _ rfl R1 (by rw [List.length_map, Nat.mul_one]) (ones_B _) (by simp only [List.length_map]; omega) hb21 ?_; intro v21 w21 O21 g21 _; refine later ?_)
      have M3 := M2.app O21 (by rw [List.length_map]) g21
      rw [← List.map_append] at M3
      clear M2 O21 g21 R1 hb21
      refine Later.in ?_
      have k5 := msgR_c5 (hC.later M3.2)
      go_wp2_with fail
      refine (eint_any (m.fnd.length : Int) _ (by omega) (by omega)).mono ?_
      rintro e w4 ⟨v4, rfl, M4⟩
      have M5 := M3.later M4.2
      have R4 := M4.rvB
      have hzl := zvar_len (m.fnd.length : Int)
      clear M3 M4 k5
      have hb22 := M5.2.size
      go_wp2_with (at_builtin; refine wpList_app2 _ rfl _ _ rfl Try.elB w0.heap.size _ _ _ rfl M5.1 _ (zvar (m.fnd.length : Int)).length _ rfl R4 (by rw [List.length_map, Nat.mul_one]) (ones_B _) (by simp only [List.length_map, List.length_append]; omega) hb22 ?_; intro v22 w22 O22 g22 _; refine later ?_)
      have M6 := M5.app O22 (by rw [List.length_map]) g22
      rw [← List.map_append] at M6
      clear M5 O22 g22 R4 hb22
      refine Later.in ?_
      obtain ⟨base, hbase⟩ : ∃ base, pre ++ rawW m.body ++ zvar (m.fnd.length : Int) = base := ⟨_, rfl⟩
      have hbl2 : base.length ≤ 70000 := by rw [← hbase]; simp only [List.length_append]; omega
      rw [hbase] at M6
      have HB := Lib.hid hbase
      clear hbase hrl hzl hpl
      go_wp2_with fail
      go_loopw [3, 6] (fun ov iv wr => ∃ (i : Nat) (q : List UInt8), iv = .int .i64 (i : Int) ∧ i ≤ m.fnd.length ∧ Hid (q = base ++ foundW (m.fnd.take i)) ∧ q.length ≤ 70000 + 30 * i ∧ Made w0 wr 5 ov (q.map vB)) (fun _ iv _ => m.fnd.length - (intOf iv).toNat)
      case atStart => exact ⟨0, base, by first | rfl | trivial, by omega, Lib.hid (by simp [foundW]), by omega, M6⟩
      case round =>
        clear M6
        rename World => wr2
        obtain ⟨j, q, rfl, hj, HQ, hql, M⟩ := hrel
        have k5 := msgR_c5 (hC.later M.2)
        by_cases hlt : j < m.fnd.length
        · obtain ⟨g, o, haf⟩ := fsome hf hlt
          subst haf
          have hlti : (j : Int) < (m.fnd.length : Int) := by omega
          have htk := foundW_take hlt
          have hok : (m.fnd[j]).ok = true := List.all_eq_true.1 HALL.out _ (List.getElem_mem hlt)
          have hfc := fun (W : World) (h : Rv W (.slice (some ⟨g, o, none⟩) m.fnd.length cf) m.fnd.length (fcells m.fnd)) => fcell3 h hlt
          obtain ⟨f, hfe⟩ : ∃ f, m.fnd[j] = f := ⟨_, rfl⟩
          rw [hfe] at htk hok hfc
          simp only [F3.ok, Bool.and_eq_true, inR_iff] at hok
          have HTK := Lib.hid htk
          have HOK := Lib.hid hok
          have HFC := Lib.hid hfc
          clear htk hok hfc hfe
          have RF := (hf.below hB0).below M.2
          obtain ⟨c1, _, _⟩ := HFC.out _ RF
          go_wp2_with fail
          refine (eint_any f.r _ (by have := HOK.out; omega) (by have := HOK.out; omega)).mono ?_
          rintro e u1 ⟨y1, rfl, N1⟩
          have M2 := M.later N1.2
          have R1 := N1.rvB
          have hz1 := zvar_len f.r
          clear M N1 k5 RF c1
          have hb31 := M2.2.size
          go_wp2_with (at_builtin; refine wpList_app2 _ rfl _ _ rfl Try.elB w0.heap.size _ _ _ rfl M2.1 _ (zvar f.r).length _ rfl R1 (by rw [List.length_map, Nat.mul_one]) (ones_B _) (by simp only [List.length_map]; omega) hb31 ?_; intro v31 w31 O31 g31 _; refine later ?_)
          have M3 := M2.app O31 (by rw [List.length_map]) g31
          rw [← List.map_append] at M3
          clear M2 O31 g31 R1 hb31
          refine Later.in ?_
          have k5 := msgR_c5 (hC.later M3.2)
          obtain ⟨_, c2, _⟩ := HFC.out _ ((hf.below hB0).below M3.2)
          go_wp2_with fail
          refine (eint_any f.s _ (by have := HOK.out; omega) (by have := HOK.out; omega)).mono ?_
          rintro e u2 ⟨y2, rfl, N2⟩
          have M4 := M3.later N2.2
          have R2 := N2.rvB
          have hz2 := zvar_len f.s
          clear M3 N2 k5 c2
          have hb32 := M4.2.size
          go_wp2_with (at_builtin; refine wpList_app2 _ rfl _ _ rfl Try.elB w0.heap.size _ _ _ rfl M4.1 _ (zvar f.s).length _ rfl R2 (by rw [List.length_map, Nat.mul_one]) (ones_B _) (by simp only [List.length_map, List.length_append]; omega) hb32 ?_; intro v32 w32 O32 g32 _; refine later ?_)
          have M5 := M4.app O32 (by rw [List.length_map]) g32
          rw [← List.map_append] at M5
          clear M4 O32 g32 R2 hb32
          refine Later.in ?_
          have k5 := msgR_c5 (hC.later M5.2)
          obtain ⟨_, _, c3⟩ := HFC.out _ ((hf.below hB0).below M5.2)
          go_wp2_with fail
          refine (eint_any f.e _ (by have := HOK.out; omega) (by have := HOK.out; omega)).mono ?_
          rintro e u3 ⟨y3, rfl, N3⟩
          have M6 := M5.later N3.2
          have R3 := N3.rvB
          have hz3 := zvar_len f.e
          clear M5 N3 k5 c3
          have hb33 := M6.2.size
          go_wp2_with (at_builtin; refine wpList_app2 _ rfl _ _ rfl Try.elB w0.heap.size _ _ _ rfl M6.1 _ (zvar f.e).length _ rfl R3 (by rw [List.length_map, Nat.mul_one]) (ones_B _) (by simp only [List.length_map, List.length_append]; omega) hb33 ?_; intro v33 w33 O33 g33 _; refine later ?_)
          have M7 := M6.app O33 (by rw [List.length_map]) g33
          rw [← List.map_append] at M7
          clear M6 O33 g33 R3 hb33
          refine Later.in ?_
          go_wp2_with fail
          go_roundw
          case rel => exact ⟨j + 1, _, by go_num, by omega, Lib.hid (by rw [HTK.out, HQ.out]; simp only [List.append_assoc]), by simp only [List.length_append]; omega, M7⟩
          case measure => simp [intOf]; omega
        · obtain rfl : j = m.fnd.length := by omega
          have hS := HQ.out
          rw [List.take_length, ← HB.out, HPRE.out] at hS
          have HS := Lib.hid hS
          clear hS
          go_wp2_with fail
          go_ret
          have e : q = coreP m := by rw [HS.out]; simp only [coreP, List.append_assoc]
          rw [e] at M
          exact ⟨_, rfl, own_base M.1 hB0.size, hB0.trans (M.2.mono hB0.size)⟩
end Go.Proofs.Ytadhghikanjkeaa
