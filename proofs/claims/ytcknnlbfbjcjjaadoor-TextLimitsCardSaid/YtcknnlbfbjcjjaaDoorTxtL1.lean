/- The law TextLimits. -/
import Derived.Test.YtcknnlbfbjcjjaaDoorTxtE1
import Derived.Test.YtcknnlbfbjcjjaaDoorTxtW
import Derived.Deep.OwnRows
namespace Go.Proofs.YtcknnlbfbjcjjaaDoor
open Go.RowKit

/-- 'make([]T, n)': the call's own row of zero values. -/
theorem wpList_mkn {P : Program} (w : World) {ops : Array Oper} {rest : List Oper} {o : Oper} {a : Act} {Q : Exit → Act → World → Prop} {t e : TypeId} {z : Value} {bytes : Nat}
    (E : Elem P t e z 1 bytes) (hz1 : z.cells = #[z]) (hg : o.guard = none) (l c : Operand) (hop : o.op = Op.makeSlice t l c)
    (kl kc : IntKind) (n : Nat) (hl : a.eval l = .int kl (n : Int)) (hc : a.eval c = .int kc (n : Int)) (b2 : bytes * n ≤ 281474976710656)
    (hK : ∀ w', w'.ownsRow w.heap.size e 1 (.slice (some ⟨w.heap.size, 0, none⟩) n n) n (List.replicate n z) → Below w.heap.size w w' → wpList P ops Q rest (a.put o.dst (.slice (some ⟨w.heap.size, 0, none⟩) n n)) w') :
    wpList P ops Q (o :: rest) a w := by
  obtain ⟨i, hi, hz, hsize, hby⟩ := info_parts E.info
  subst hby
  have hle : n ≤ i.bytes * n := Nat.le_mul_of_pos_left _ E.hby
  refine wpList_make_row w hg l c t hop e i z E.ht hi hz hsize hz1 kl kc n hl hc b2 (by omega) (hK _ ?_ ((Below.refl _ w).alloc (Nat.le_refl _) _))
  have h2 := own_lit w (List.replicate n z) e 1 n (by simp) (by unfold maxLen; omega)
  have h3 : (List.replicate n z).toArray = madeCells #[z] n := by
    apply Array.ext
    · simp [madeCells]
    · intro j h1 h2
      simp [madeCells, Nat.mod_one]
  rwa [h3] at h2

theorem encM_zeros (k : Nat) (runes : Bool) : encM (List.replicate k 0) runes = List.replicate k 0 := by
  induction k with
  | zero => rfl
  | succ k ih =>
    have e : oneM runes 0 = [0] := by cases runes <;> rfl
    rw [List.replicate_succ, List.replicate_succ]
    show oneM runes (0 : Int).toNat ++ encM (List.replicate k 0) runes = _
    rw [ih]
    show oneM runes 0 ++ _ = _
    rw [e]
    rfl
theorem decM_zeros (k : Nat) (runes : Bool) : decM runes (List.replicate k 0) = List.replicate k 0 := by
  rw [← encM_zeros k runes]
  refine dec_enc runes _ (List.all_eq_true.2 fun x hx => ?_)
  rw [(List.mem_replicate.1 hx).2]
  cases runes <;> rfl
theorem decE_zeros (k : Nat) : decE (List.replicate k 0) = if k ≤ 65536 then 0 else 4 := by
  unfold decE
  rw [if_pos (fun y hy => by rw [(List.mem_replicate.1 hy).2]; exact Int.le_refl _), List.length_replicate]
theorem valM_len (l : List Int) (runes : Bool) : (valM l runes = 4 ↔ 65536 < l.length) ∧ (valM l runes = 4 ∨ valM l runes = 0 ∨ valM l runes = 5) := by
  unfold valM
  split
  · rename_i h; exact ⟨⟨fun _ => h, fun _ => rfl⟩, .inl rfl⟩
  · rename_i h
    split
    · exact ⟨⟨(fun h' => by cases h'), fun h' => absurd h' h⟩, .inr (.inl rfl)⟩
    · exact ⟨⟨(fun h' => by cases h'), fun h' => absurd h' h⟩, .inr (.inr rfl)⟩
theorem chkE_zeros (k : Nat) (h : 4 ≤ k) : chkE k ⟨3, 1, [0, 0, 0, 0]⟩ = if 65536 < k + 3 then 4 else 0 := by
  unfold chkE
  rw [if_neg (by simp only; omega), if_neg (by decide)]
  simp only [List.length_cons, List.length_nil]
  by_cases hb : 65536 < k + 3
  · rw [if_pos hb, if_pos (by omega)]
  · rw [if_neg hb, if_neg (by omega)]
theorem splR_zeros (k : Nat) (h : 4 ≤ k) (h2 : ¬ 65536 < k + 3) : (splR (List.replicate k 0) ⟨3, 1, [0, 0, 0, 0]⟩).length = k + 3 := by
  unfold splR
  rw [List.length_replicate, chkE_zeros k h, if_neg h2, if_pos rfl]
  unfold spl
  simp
  omega
theorem splR_zeros' (k : Nat) (h : 4 ≤ k) (h2 : 65536 < k + 3) : (splR (List.replicate k 0) ⟨3, 1, [0, 0, 0, 0]⟩).length = 0 := by
  unfold splR
  rw [List.length_replicate, chkE_zeros k h, if_pos h2]
  rfl

set_option maxRecDepth 20000 in
set_option maxHeartbeats 4000000 in
theorem law_TextLimits (n sy : Int) (runes : Bool) (w : World) (hn : -9223372036854775808 ≤ n ∧ n ≤ 9223372036854775807) (hF : FM w) :
    Calls Tryd.prog 8 #[.int .i64 n, .int .i64 sy, .bool runes] w (RetTB w) := by
  have hw0 : 0 < w.heap.size := World.block_lt_of_cell? w _ (hF 0 (by omega))
  have HX := Lib.hid hn
  clear hn
  go_enter Tryd.func8, Tryd.ntmps8
  go_wp2_with fail
  refine (around_nat n 12 (by omega) HX.out.1 HX.out.2 (by omega) _).mono ?_
  rintro e w1 ⟨q, hq, _, rfl, rfl⟩
  obtain ⟨k, hk⟩ : ∃ k : Nat, k = 65530 + q := ⟨_, rfl⟩
  have hkq : (65530 : Int) + (q : Int) = (k : Int) := by omega
  have hk1 : 65530 ≤ k := by omega
  have hk2 : k ≤ 65541 := by omega
  clear hk hq
  go_wp2_with (at_make; refine wpList_mkn _ Tryd.elI rfl rfl _ _ rfl .i64 .i64 k rfl rfl (by omega) ?_; intro w2 O2 B2; have c7 : w2.cell? ⟨w.heap.size, 7, none⟩ = some (.int .i64 0) := (O2.cellAt 7 (by omega)).trans (by rw [List.getElem?_replicate, if_pos (by omega)]); have f7 := O2.frozenAt 7; have O3 := (O2.stored 7 (.int .i64 sy)).1)
  have B3 : Below w.heap.size w (w2.setCell ⟨w.heap.size, 7, none⟩ (.int .i64 sy)) := B2.setCell (p := ⟨w.heap.size, 7, none⟩) (Nat.le_refl _) _
  have R3 := Rv.of_own O3
  generalize w2.setCell ⟨w.heap.size, 7, none⟩ (.int .i64 sy) = w3 at *
  have hset : (List.replicate k (Value.int .i64 0)).set 7 (.int .i64 sy) = ((List.replicate k 0).set 7 sy).map (Value.int .i64) := by rw [List.map_set, List.map_replicate]
  rw [hset] at R3
  have hlen : ((List.replicate k (0 : Int)).set 7 sy).length = k := by simp
  generalize (List.replicate k (0 : Int)).set 7 sy = l at *
  clear O3 O2 B2 c7 f7 hset
  subst hlen
  have hvl := valM_len l runes
  have hz : valM l runes ≠ 0 → encR l runes = [] := fun h => by unfold encR; rw [if_neg h]
  have h1 := rvalid_any _ l runes w3 R3 (by omega)
  have h2 := fun w1 h1 h2 => encode_any (.slice (some ⟨w.heap.size, 0, none⟩) l.length l.length) l runes w1 h1 (by omega) h2
  have h3 := fun w1 h1 => valid_any (.slice (some ⟨w.heap.size, 0, none⟩) l.length l.length) l runes w1 h1 (by omega)
  generalize valM l runes = r at *
  generalize encR l runes = us at *
  have H2 := Lib.hid h2
  have H3 := Lib.hid h3
  clear h2 h3
  refine h1.mono ?_
  rintro e w' ⟨rfl, rfl⟩
  clear h1
  go_wp2_with fail
  refine (H2.out _ R3 (hF.below B3 hw0)).mono ?_
  rintro e w4 ⟨v4, rfl, M4⟩
  have B4 := bel B3 M4.2
  have R4 := R3.below M4.2
  obtain ⟨k4, a4, c4, rfl⟩ := own_shape M4.1
  have e4 := own_kk3 (Rv.of_own M4.1)
  rw [List.length_map] at e4
  subst e4
  clear M4 R3 B3 H2
  go_wp2_with fail
  refine (H3.out _ R4).mono ?_
  rintro e w5 ⟨rfl, C5⟩
  have B5 := bel B4 C5
  clear C5 R4 B4 H3
  generalize l.length = k at *
  have hd := fun v w1 h1 h2 => decode_any v (List.replicate k 0) runes w1 h1 (by rw [List.length_replicate]; omega) h2
  rw [decM_zeros, decE_zeros] at hd
  have hdl : decL (List.replicate k 0) = if k ≤ 65536 then List.replicate k 0 else [] := by
    unfold decL
    rw [decE_zeros]
    by_cases h : k ≤ 65536
    · rw [if_pos h, if_pos rfl, if_pos h]
    · rw [if_neg h, if_neg (by decide), if_neg h]
  rw [hdl] at hd
  clear hdl
  have hs := fun v iv w1 h1 h2 => splice_any v (List.replicate k 0) ⟨3, 1, [0, 0, 0, 0]⟩ iv w1 h1 h2 (by rw [List.length_replicate]; omega) (by decide) (by decide) (by decide)
  rw [List.length_replicate, chkE_zeros k (by omega)] at hs
  have hsl1 := splR_zeros k (by omega)
  have hsl2 := splR_zeros' k (by omega)
  generalize splR (List.replicate k 0) ⟨3, 1, [0, 0, 0, 0]⟩ = sl at *
  have hcase : (65536 < k ∧ r = 4 ∧ 65536 < k + 3) ∨ (k ≤ 65536 ∧ r = 0 ∧ 65536 < k + 3) ∨ (k ≤ 65536 ∧ r = 5 ∧ 65536 < k + 3) ∨ (k ≤ 65536 ∧ r = 0 ∧ ¬ 65536 < k + 3) ∨ (k ≤ 65536 ∧ r = 5 ∧ ¬ 65536 < k + 3) := by omega
  have hw5 : w.heap.size ≤ w5.heap.size := B5.size
  have HK := Lib.hid hkq
  clear hvl hkq
  rcases hcase with ⟨ha, hr, hb⟩ | ⟨ha, hr, hb⟩ | ⟨ha, hr, hb⟩ | ⟨ha, hr, hb⟩ | ⟨ha, hr, hb⟩
  all_goals
    subst hr
    first
    | (have hus := hz (by decide)
       subst hus)
    | skip
    clear hz
    first
    | rw [if_neg (by omega), if_neg (by omega)] at hd
    | rw [if_pos ha, if_pos ha] at hd
    first
    | (rw [if_pos hb] at hs
       have hsn := hsl2 hb)
    | (rw [if_neg hb] at hs
       have hsn := hsl1 hb)
    clear hsl1 hsl2
    have HD := Lib.hid hd
    have HS := Lib.hid hs
    have HSN := Lib.hid hsn
    clear hd hs hsn
    go_wp2_with (at_make; refine wpList_mkn _ Tryd.elB rfl rfl _ _ rfl .i64 .i64 k rfl rfl (by omega) ?_; intro w6 O6 C6)
    have B6 := bel B5 C6
    refine (HD.out _ _ (by rw [List.length_replicate, List.map_replicate]; exact Rv.of_own O6) (hF.below B6 hw0)).mono ?_
    rintro e w7 ⟨v7, rfl, O7, C7⟩
    have B7 := bel B6 C7
    obtain ⟨k7, a7, c7, rfl⟩ := own_shape O7
    have e7 := own_kk3 (Rv.of_own O7)
    subst e7
    clear C6 C7 O6 O7 B6 HD
    try rw [List.length_replicate]
    try rw [List.length_nil]
    go_wp2_with (first
      | (at_make; refine wpList_mkn _ Tryd.elI rfl rfl _ _ rfl .i64 .i64 4 rfl rfl (by omega) ?_; intro w8 O8 C8)
      | (at_make; refine wpList_mkn _ Tryd.elI rfl rfl _ _ rfl .i64 .i64 k rfl rfl (by omega) ?_; intro w9 O9 C9))
    have B8 := bel B7 C8
    have B9 := bel B8 C9
    have R8 : Rv w9 (.slice (some ⟨w7.heap.size, 0, none⟩) 4 4) 4 (([0, 0, 0, 0] : List Int).map (Value.int .i64)) := (Rv.of_own O8).below C9
    have R9 : Rv w9 (.slice (some ⟨w8.heap.size, 0, none⟩) k k) k ((List.replicate k (0 : Int)).map (Value.int .i64)) := by
      rw [List.map_replicate]; exact Rv.of_own O9
    clear O8 O9 C8 C9
    refine (HS.out _ _ _ R9 R8).mono ?_
    rintro e w10 ⟨v10, rfl, M10⟩
    have B10 := bel B9 M10.2
    obtain ⟨k10, a10, c10, rfl⟩ := own_shape M10.1
    have e10 := own_kk3 (Rv.of_own M10.1)
    rw [List.length_map, HSN.out] at e10
    clear M10 R8 R9 HS
    obtain ⟨k3, hk3⟩ : ∃ k3, k3 = k + 3 := ⟨_, rfl⟩
    first
    | rw [← hk3] at e10
    | skip
    subst e10
    have hq3 : (k : Int) + 3 = (k3 : Int) := by omega
    first
    | (have hq : (65536 : Int) < (k3 : Int) := by omega)
    | (have hq : ¬ (65536 : Int) < (k3 : Int) := by omega)
    have hq4 : k3 ≤ 70000 := by omega
    clear ha hb hk1 hk2 HK hk3
    go_wp2_with fail
    refine (lives4_any _ (hF.below B10 hw0)).mono ?_
    rintro e w11 ⟨rfl, C11⟩
    go_wp2_with fail
    go_ret
    exact ⟨rfl, bel B10 C11⟩
end Go.Proofs.YtcknnlbfbjcjjaaDoor
