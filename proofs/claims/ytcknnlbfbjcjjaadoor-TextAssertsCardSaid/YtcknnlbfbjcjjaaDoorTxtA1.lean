/- The law TextAsserts. -/
import Derived.Test.YtcknnlbfbjcjjaaDoorTxtE1
namespace Go.Proofs.YtcknnlbfbjcjjaaDoor
open Go.RowKit

def hasB (l : List Int) (x : Int) : Bool := decide (x ∈ l)
set_option maxHeartbeats 1000000 in
theorem has_any (v : Value) (l : List Int) (x : Int) (w : World) (hv : Rv w v l.length (l.map (Value.int .i64))) (hl : l.length ≤ 1099511627776) :
    Calls Tryd.prog 30 #[v, .int .i64 x] w fun e w' => e = .returned (.bool (hasB l x)) ∧ w = w' := by
  obtain ⟨ao, cap, rfl, hcap, hrd⟩ := hv.opened
  obtain ⟨r, hr⟩ : ∃ r, r = hasB l x := ⟨_, rfl⟩
  rw [← hr]
  have HR := Lib.hid hr
  clear hr
  go_enter Tryd.func30, Tryd.ntmps30
  go_wp2_with fail
  go_loopw [5] (fun iv wr => ∃ i : Nat, iv = .int .i64 (i : Int) ∧ i ≤ l.length ∧ Hid (¬ x ∈ l.take i) ∧ w = wr) (fun iv _ => l.length - (intOf iv).toNat)
  case atStart => exact ⟨0, rfl, Nat.zero_le _, (fun h => by cases h), rfl⟩
  case round =>
    obtain ⟨i, rfl, hi, HN, rfl⟩ := hrel
    by_cases hlt : i < l.length
    · obtain ⟨b2, off2, rfl, hcx⟩ := hrd.cell (i := i) (u := .int .i64 l[i]) (by simp [hlt])
      have hsn : l.take (i + 1) = l.take i ++ [l[i]] := List.take_succ_eq_append_getElem hlt
      by_cases hx : l[i] = x
      · have hin : r = true := HR.out.trans (decide_eq_true (hx ▸ List.getElem_mem hlt))
        subst hin
        rw [hx] at hcx
        clear hsn hx
        go_wp2_with fail
        go_ret
        exact ⟨rfl, rfl⟩
      · have HS : Hid (¬ x ∈ l.take (i + 1)) := by
          show ¬ _
          rw [hsn]
          intro h
          rcases List.mem_append.1 h with h | h
          · exact HN.out h
          · exact hx (List.mem_singleton.1 h).symm
        have hb : (l[i] == x) = false := beq_eq_false_iff_ne.2 hx
        clear hsn
        generalize l[i] = y at *
        go_wp2_with fail
        go_roundw
        case rel => exact ⟨i + 1, by go_num, by omega, HS, by trivial⟩
        case measure => simp [intOf]; omega
    · obtain rfl : i = l.length := by omega
      have hin : r = false := HR.out.trans (decide_eq_false (by have := HN.out; rwa [List.take_length] at this))
      subst hin
      go_wp2_with fail
      go_ret
      exact ⟨rfl, rfl⟩

theorem lnsFrom_mem (k : Nat) (l : List Int) (x : Int) : x ∈ lnsFrom k l ↔ ∃ i : Nat, i < l.length ∧ l[i]? = some 10 ∧ x = ((k + i + 1 : Nat) : Int) := by
  induction l generalizing k with
  | nil => simp [lnsFrom]
  | cons c l ih =>
    rw [lnsFrom]
    have hh : (x ∈ lnsFrom (k + 1) l) ↔ ∃ i : Nat, i < l.length ∧ l[i]? = some 10 ∧ x = ((k + 1 + i + 1 : Nat) : Int) := ih (k + 1)
    constructor
    · intro h
      have h2 : (c = 10 ∧ x = ((k + 1 : Nat) : Int)) ∨ x ∈ lnsFrom (k + 1) l := by
        split at h
        · rename_i hc
          rcases List.mem_cons.1 h with h | h
          · exact .inl ⟨hc, h⟩
          · exact .inr h
        · exact .inr h
      rcases h2 with ⟨hc, h⟩ | h
      · exact ⟨0, by simp, by simp [hc], h⟩
      · obtain ⟨i, h1, h3, h4⟩ := hh.1 h
        exact ⟨i + 1, by simp; omega, by simpa using h3, by rw [h4]; congr 1; omega⟩
    · rintro ⟨i, h1, h2, h3⟩
      cases i with
      | zero =>
        have hc : c = 10 := by simpa using h2
        rw [if_pos hc, h3]
        exact List.mem_cons_self ..
      | succ i =>
        have h4 : x ∈ lnsFrom (k + 1) l := hh.2 ⟨i, by simpa using h1, by simpa using h2, by rw [h3]; congr 1; omega⟩
        split
        · exact List.mem_cons_of_mem _ h4
        · exact h4
theorem lns_ass (l : List Int) (p : Int) (h1 : -1 ≤ p) (h2 : p ≤ (l.length : Int) + 1) : assP 2 l p = hasB (lns l) p := by
  rw [Bool.eq_iff_iff]
  unfold hasB
  rw [decide_eq_true_iff, lns, List.mem_cons, lnsFrom_mem]
  by_cases hn : p < 0
  · unfold assP
    simp [hn]
    constructor
    · omega
    · intro i hi _
      omega
  obtain ⟨n, rfl⟩ := Int.eq_ofNat_of_zero_le (show 0 ≤ p by omega)
  by_cases hle : n ≤ l.length
  · rw [assP_in 2 l n hle]
    cases n with
    | zero => simp [assO]
    | succ n =>
      have : l[n]? = some l[n] := List.getElem?_eq_getElem (by omega)
      simp only [Nat.add_sub_cancel, Nat.add_one_ne_zero, ↓reduceIte, this]
      constructor
      · intro h
        right
        refine ⟨n, by omega, ?_, by simp⟩
        rw [this]
        simpa [assO] using h
      · rintro (h | ⟨i, hi, h3, h4⟩)
        · omega
        · obtain rfl : i = n := by omega
          rw [this] at h3
          have : l[i] = 10 := by simpa using h3
          simp [assO, this]
  · unfold assP
    have : (l.length : Int) < (n : Int) := by omega
    simp [this]
    constructor
    · omega
    · intro i hi _ h
      omega
theorem ass_one (l : List Int) (p : Int) : (assP 4 l p != assP 5 l p) = decide (0 ≤ p ∧ p ≤ (l.length : Int)) := by
  by_cases hn : 0 ≤ p ∧ p ≤ (l.length : Int)
  · obtain ⟨n, rfl⟩ := Int.eq_ofNat_of_zero_le hn.1
    rw [assP_in 4 l n (by omega), assP_in 5 l n (by omega), decide_eq_true hn]
    simp only [assO]
    generalize Option.any wordS (if n = 0 then none else l[n - 1]?) = a
    generalize Option.any wordS l[n]? = b
    cases a <;> cases b <;> rfl
  · rw [decide_eq_false hn]
    unfold assP
    have : p < 0 ∨ (l.length : Int) < p := by omega
    simp [this]

set_option maxRecDepth 20000 in
set_option maxHeartbeats 4000000 in
theorem law_TextAsserts (u : Value) (l : List Int) (a n sy : Int) (w : World) (hu : Rv w u l.length (l.map (Value.int .i64))) (hl : ∀ x ∈ l, -9223372036854775808 ≤ x ∧ x ≤ 9223372036854775807) (hF : FM w) :
    Calls Tryd.prog 5 #[u, .int .i64 a, .int .i64 n, .int .i64 sy] w (RetTB w) := by
  have hw0 : 0 < w.heap.size := World.block_lt_of_cell? w _ (hF 0 (by omega))
  have HX := Lib.hid hl
  clear hl
  go_enter Tryd.func5, Tryd.ntmps5
  go_wp2_with fail
  refine (text_any u l 30 true w hu HX.out (by omega)).mono ?_
  rintro e w1 ⟨v1, rfl, M1⟩
  have n1 := textM_le l 30 true
  generalize textM l 30 true = t at *
  have B1 := M1.2
  have R1 := M1.rv
  rw [List.length_map] at R1
  clear M1
  obtain ⟨x1, y1, e1, _, _⟩ := R1.opened
  subst e1
  go_wp2_with fail
  refine (lines_any _ t w1 R1 (by omega)).mono ?_
  rintro e w2 ⟨v2, rfl, M2⟩
  have n2 : (lns t).length ≤ 40 := by have := lnsFrom_len 0 t; rw [lns, List.length_cons]; omega
  have B2 := bel B1 M2.2
  have R1 := R1.below M2.2
  have R2 := M2.rv
  rw [List.length_map] at R2
  clear M2 B1
  have hl2 := lns_ass t
  have HL2 := Lib.hid hl2
  clear hl2
  generalize lns t = ln at *
  have hF2 := hF.below B2 hw0
  go_wp2_with fail
  go_loopw [11] (fun iv wr => ∃ i : Int, iv = .int .i64 i ∧ -1 ≤ i ∧ i ≤ (t.length : Int) + 2 ∧ wr = w2) (fun iv _ => ((t.length : Int) + 3 - intOf iv).toNat)
  case atStart => exact ⟨-1, rfl, by omega, by omega, rfl⟩
  case round =>
    obtain ⟨i, rfl, hi1, hi2, rfl⟩ := hrel
    by_cases hlt : i ≤ (t.length : Int) + 1
    · go_wp2_with fail
      go_loopw [12] (fun kv wr2 => ∃ k : Int, kv = .int .i64 k ∧ -1 ≤ k ∧ k ≤ 7 ∧ wr2 = wr) (fun kv _ => (8 - intOf kv).toNat)
      case atStart => exact ⟨-1, rfl, by omega, by omega, rfl⟩
      case round =>
        obtain ⟨k, rfl, hk1, hk2, rfl⟩ := hrel
        by_cases hk : k < 7
        · have h1 := assert_any k _ t i wr R1 (by omega)
          have h2 := rassert_any k _ t i wr R1 (by omega)
          generalize assP k t i = bv at *
          go_wp2_with fail
          refine h1.mono ?_
          rintro e w' ⟨rfl, rfl⟩
          go_wp2_with fail
          refine h2.mono ?_
          rintro e w' ⟨rfl, rfl⟩
          clear h1 h2
          cases bv
          all_goals
            go_wp2_with fail
            go_roundw
            case rel => exact ⟨k + 1, by go_num, by omega, by omega, by trivial⟩
            case measure => simp [intOf]; omega
        · obtain rfl : k = 7 := by omega
          have h4 := assert_any 4 _ t i wr R1 (by omega)
          have h5 := assert_any 5 _ t i wr R1 (by omega)
          have h2 := assert_any 2 _ t i wr R1 (by omega)
          have hh := has_any v2 ln i wr R2 (by omega)
          rw [HL2.out i hi1 hlt] at h2
          have h45 := ass_one t i
          generalize assP 4 t i = b4 at *
          generalize assP 5 t i = b5 at *
          generalize hasB ln i = b2 at *
          have H2 := Lib.hid h2
          have H4 := Lib.hid h4
          have H5 := Lib.hid h5
          have HH := Lib.hid hh
          clear h2 h4 h5 hh
          have hio : i < 0 ∨ (¬ i < 0 ∧ (t.length : Int) < i) ∨ (0 ≤ i ∧ i ≤ (t.length : Int)) := by omega
          have h45b : ((0 ≤ i ∧ i ≤ (t.length : Int)) → b5 = !b4) ∧ ((¬ (0 ≤ i ∧ i ≤ (t.length : Int))) → b5 = b4) := by
            constructor
            · intro h; rw [decide_eq_true h] at h45; cases b4 <;> cases b5 <;> simp at h45 <;> rfl
            · intro h; rw [decide_eq_false h] at h45; cases b4 <;> cases b5 <;> simp at h45 <;> rfl
          clear h45
          obtain ⟨q1, q2⟩ := h45b
          rcases hio with h | ⟨h, h'⟩ | ⟨h, h'⟩
          · have q := q2 (by omega)
            subst q
            clear q1 q2
            cases b5 <;> cases b2
            all_goals
              go_wp2_with fail
              refine H4.out.mono ?_
              rintro e w' ⟨rfl, rfl⟩
              go_wp2_with fail
              refine H5.out.mono ?_
              rintro e w' ⟨rfl, rfl⟩
              go_wp2_with fail
              refine H2.out.mono ?_
              rintro e w' ⟨rfl, rfl⟩
              go_wp2_with fail
              refine HH.out.mono ?_
              rintro e w' ⟨rfl, rfl⟩
              go_wp2_with fail
              go_roundw
              case rel => exact ⟨i + 1, by go_num, by omega, by omega, by trivial⟩
              case measure => simp [intOf]; omega
          · have q := q2 (by omega)
            subst q
            clear q1 q2
            cases b5 <;> cases b2
            all_goals
              go_wp2_with fail
              refine H4.out.mono ?_
              rintro e w' ⟨rfl, rfl⟩
              go_wp2_with fail
              refine H5.out.mono ?_
              rintro e w' ⟨rfl, rfl⟩
              go_wp2_with fail
              refine H2.out.mono ?_
              rintro e w' ⟨rfl, rfl⟩
              go_wp2_with fail
              refine HH.out.mono ?_
              rintro e w' ⟨rfl, rfl⟩
              go_wp2_with fail
              go_roundw
              case rel => exact ⟨i + 1, by go_num, by omega, by omega, by trivial⟩
              case measure => simp [intOf]; omega
          · have q := q1 ⟨h, h'⟩
            subst q
            clear q1 q2
            cases b4 <;> cases b2
            all_goals
              go_wp2_with fail
              refine H4.out.mono ?_
              rintro e w' ⟨rfl, rfl⟩
              go_wp2_with fail
              refine H5.out.mono ?_
              rintro e w' ⟨rfl, rfl⟩
              go_wp2_with fail
              refine H2.out.mono ?_
              rintro e w' ⟨rfl, rfl⟩
              go_wp2_with fail
              refine HH.out.mono ?_
              rintro e w' ⟨rfl, rfl⟩
              go_wp2_with fail
              go_roundw
              case rel => exact ⟨i + 1, by go_num, by omega, by omega, by trivial⟩
              case measure => simp [intOf]; omega
    · obtain rfl : i = (t.length : Int) + 2 := by omega
      go_wp2_with fail
      go_loopw [14] (fun iv wr2 => ∃ i : Nat, iv = .int .i64 (i : Int) ∧ i ≤ 130 ∧ wr2 = wr) (fun iv _ => (131 - intOf iv).toNat)
      case atStart => exact ⟨0, rfl, by omega, rfl⟩
      case round =>
        obtain ⟨i, rfl, hi, rfl⟩ := hrel
        by_cases hk : i < 130
        · have h1 := word_any (i : Int) wr
          have h2 := rword_any (i : Int) wr
          generalize wordS (i : Int) = bv at *
          go_wp2_with fail
          refine h1.mono ?_
          rintro e w' ⟨rfl, rfl⟩
          go_wp2_with fail
          refine h2.mono ?_
          rintro e w' ⟨rfl, rfl⟩
          clear h1 h2
          cases bv
          all_goals
            go_wp2_with fail
            go_roundw
            case rel => exact ⟨i + 1, by go_num, by omega, by trivial⟩
            case measure => simp [intOf]; omega
        · obtain rfl : i = 130 := by omega
          have h1 := assert_any n _ t a wr R1 (by omega)
          have h2 := rassert_any n _ t a wr R1 (by omega)
          generalize assP n t a = bv at *
          have h3 := word_any sy wr
          have h4 := rword_any sy wr
          generalize wordS sy = bw at *
          cases bv <;> cases bw
          all_goals
            go_wp2_with fail
            refine h1.mono ?_
            rintro e w' ⟨rfl, rfl⟩
            go_wp2_with fail
            refine h2.mono ?_
            rintro e w' ⟨rfl, rfl⟩
            go_wp2_with fail
            refine h3.mono ?_
            rintro e w' ⟨rfl, rfl⟩
            go_wp2_with fail
            refine h4.mono ?_
            rintro e w' ⟨rfl, rfl⟩
            go_wp2_with fail
            refine (lives4_any _ hF2).mono ?_
            rintro e w9 ⟨rfl, C9⟩
            go_wp2_with fail
            go_ret
            exact ⟨rfl, bel B2 C9⟩
end Go.Proofs.YtcknnlbfbjcjjaaDoor
