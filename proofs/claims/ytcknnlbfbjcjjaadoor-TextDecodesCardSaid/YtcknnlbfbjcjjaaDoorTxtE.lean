/- The model of package text: the check of an edit. -/
import Derived.Test.YtcknnlbfbjcjjaaDoorTxtD
namespace Go.Proofs.YtcknnlbfbjcjjaaDoor
open Go.RowKit

set_option maxHeartbeats 4000000 in
theorem rcheck_any (v : Value) (l : List Int) (e : Ed) (iv : Value) (w : World) (hv : Rv w v l.length (l.map (Value.int .i64))) (hi : Rv w iv e.s.length (e.s.map (Value.int .i64))) (hl : l.length ≤ 1000000000) (hs : e.s.length ≤ 1000000000)
    (ha : -9223372036854775808 ≤ e.a ∧ e.a ≤ 9223372036854775807) (hd : -9223372036854775808 ≤ e.d ∧ e.d ≤ 9223372036854775807) :
    Calls Tryd.prog 23 #[v, e.val iv] w fun en w' => en = .returned (.int .i64 (chkE l.length e)) ∧ Below w.heap.size w w' := by
  obtain ⟨a, d, s⟩ := e
  obtain ⟨ao, cap, rfl, hcap, _⟩ := hv.opened
  obtain ⟨ai, ci, rfl, hci, _⟩ := hi.opened
  unfold Ed.val
  simp only at hs ha hd hi ⊢
  have C0 := Box3.new w (.int .i64 a) (.int .i64 d) (.slice ai s.length ci)
  have B0 : Below w.heap.size w (w.alloc (.cells #[.int .i64 a, .int .i64 d, .slice ai s.length ci] 37)) := (Below.refl _ w).alloc (Nat.le_refl _) _
  have hi0 := hi.below B0
  have k0 := C0.k0
  have k1 := C0.k1
  have k2 := C0.k2
  have hc : chkE l.length ⟨a, d, s⟩ = if a < 0 ∨ d < 0 ∨ (l.length : Int) < a ∨ (l.length : Int) - a < d then 5 else if s.any badE then 5 else if 65536 < (l.length : Int) - d + (s.length : Int) then 4 else 0 := rfl
  generalize chkE l.length ⟨a, d, s⟩ = r at *
  have HC := Lib.hid hc
  clear hc
  have h4 : a < 0 ∨ (¬ a < 0 ∧ d < 0) ∨ (¬ a < 0 ∧ ¬ d < 0 ∧ (l.length : Int) < a) ∨ (¬ a < 0 ∧ ¬ d < 0 ∧ ¬ (l.length : Int) < a ∧ (l.length : Int) - a < d) ∨ (¬ a < 0 ∧ ¬ d < 0 ∧ ¬ (l.length : Int) < a ∧ ¬ (l.length : Int) - a < d) := by omega
  rcases h4 with h | ⟨h, h'⟩ | ⟨h, h', h''⟩ | ⟨h, h', h'', h3⟩ | ⟨h, h', h'', h3⟩
  · have hr : r = 5 := by rw [HC.out, if_pos (.inl h)]
    subst hr
    clear HC
    go_enter Tryd.func23, Tryd.ntmps23
    go_wp2_with fail
    go_ret
    exact ⟨rfl, B0⟩
  · have hr : r = 5 := by rw [HC.out, if_pos (.inr (.inl h'))]
    subst hr
    clear HC
    go_enter Tryd.func23, Tryd.ntmps23
    go_wp2_with fail
    go_ret
    exact ⟨rfl, B0⟩
  · have hr : r = 5 := by rw [HC.out, if_pos (.inr (.inr (.inl h'')))]
    subst hr
    clear HC
    go_enter Tryd.func23, Tryd.ntmps23
    go_wp2_with fail
    go_ret
    exact ⟨rfl, B0⟩
  · have hr : r = 5 := by rw [HC.out, if_pos (.inr (.inr (.inr h3)))]
    subst hr
    clear HC
    go_enter Tryd.func23, Tryd.ntmps23
    go_wp2_with fail
    go_ret
    exact ⟨rfl, B0⟩
  · have HC2 : Hid (r = if s.any badE then 5 else if 65536 < (l.length : Int) - d + (s.length : Int) then 4 else 0) := by
      show _ = _
      rw [HC.out, if_neg (by omega)]
    clear HC
    go_enter Tryd.func23, Tryd.ntmps23
    go_wp2_with fail
    go_loopw [5] (fun iv wr => ∃ i : Nat, iv = .int .i64 (i : Int) ∧ i ≤ s.length ∧ Hid ((s.take i).any badE = false) ∧ wr = w.alloc (.cells #[.int .i64 a, .int .i64 d, .slice ai s.length ci] 37)) (fun iv _ => s.length - (intOf iv).toNat)
    case atStart => exact ⟨0, rfl, Nat.zero_le _, rfl, rfl⟩
    case round =>
      obtain ⟨i, rfl, hil, HA, rfl⟩ := hrel
      by_cases hlt : i < s.length
      · obtain ⟨b2, off2, rfl, hcx⟩ := hi0.rd.cell (i := i) (u := .int .i64 s[i]) (by simp [hlt])
        have hsn : (s.take (i + 1)).any badE = badE s[i] := by rw [List.take_succ_eq_append_getElem hlt, List.any_append, HA.out]; simp
        have hin : badE s[i] = true → s.any badE = true := fun h => List.any_eq_true.2 ⟨s[i], List.getElem_mem hlt, h⟩
        generalize s[i] = x at *
        by_cases hx : x < 0 ∨ 1114111 < x
        · have hr : r = 5 := by rw [HC2.out, hin (decide_eq_true hx)]; rfl
          subst hr
          clear HC2 hsn hin
          rcases hx with hx | hx
          · go_wp2_with fail
            go_ret
            exact ⟨rfl, B0⟩
          · have hx0 : ¬ x < 0 := by omega
            go_wp2_with fail
            go_ret
            exact ⟨rfl, B0⟩
        · have hbx : badE x = false := decide_eq_false hx
          rw [hbx] at hsn
          have HS := Lib.hid hsn
          have hx1 : ¬ x < 0 := by omega
          have hx2 : ¬ 1114111 < x := by omega
          clear hsn hin hx hbx
          go_wp2_with fail
          go_roundw
          case rel => exact ⟨i + 1, by go_num, by omega, HS.out, by trivial⟩
          case measure => simp [intOf]; omega
      · obtain rfl : i = s.length := by omega
        rw [List.take_length] at HA
        have HC3 := HC2.out
        rw [HA.out, if_neg (by decide)] at HC3
        have HC4 := Lib.hid HC3
        clear HC3 HC2
        by_cases hbig : 65536 < (l.length : Int) - d + (s.length : Int)
        all_goals
          first
          | (have hr : r = 4 := HC4.out.trans (if_pos hbig)
             subst hr)
          | (have hr : r = 0 := HC4.out.trans (if_neg hbig)
             subst hr)
          clear HC4
          go_wp2_with fail
          go_ret
          exact ⟨rfl, B0⟩
end Go.Proofs.YtcknnlbfbjcjjaaDoor
