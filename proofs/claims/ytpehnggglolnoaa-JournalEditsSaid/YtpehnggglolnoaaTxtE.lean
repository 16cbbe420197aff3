/- Several texts in one: TxtD TxtE. -/
import Derived.Test.YtpehnggglolnoaaTxtC
/- Package text and its model: the check of an edit. -/
namespace Go.Proofs.Ytpehnggglolnoaa
open Go.RowKit

/-- What no text of an editor holds. -/
def badE (x : Int) : Bool := decide (x < 0 ∨ 1114111 < x)
theorem check1_any (n : Int) (w : World) : Calls Try.prog 84 #[.int .i64 n] w fun e w' => e = .returned (.bool (badE n)) ∧ w = w' := by
  go_enter Try.func84, Try.ntmps84
  go_wp2_with fail
  all_goals
    go_ret
    refine ⟨ret_bool ?_, rfl⟩
    rw [Bool.eq_iff_iff]
    simp [badE]
    try omega

set_option maxHeartbeats 1000000 in
/-- slices.IndexFunc with the check's own function: -1 exactly where none is bad. -/
theorem indexE_any (v : Value) (l : List Int) (w : World) (hv : Rv w v l.length (l.map (Value.int .i64))) (hl : l.length ≤ 1099511627776) :
    Calls Try.prog 98 #[v, .func (.func 84) #[] #[]] w fun e w' => (∃ i : Int, e = .returned (.int .i64 i) ∧ decide (0 ≤ i) = l.any badE) ∧ w = w' := by
  obtain ⟨ao, cap, rfl, hcap, hrd⟩ := hv.opened
  go_enter Try.func98, Try.ntmps98
  go_wp2_with fail
  go_loopw [8] (fun iv wr => ∃ i : Nat, iv = .int .i64 (i : Int) ∧ i ≤ l.length ∧ Hid ((l.take i).any badE = false) ∧ wr = w) (fun iv _ => l.length - (intOf iv).toNat)
  case atStart => exact ⟨0, rfl, Nat.zero_le _, rfl, rfl⟩
  case round =>
    obtain ⟨i, rfl, hi, HA, rfl⟩ := hrel
    by_cases hlt : i < l.length
    · obtain ⟨b2, off2, rfl, hcx⟩ := hrd.cell (i := i) (u := .int .i64 l[i]) (by simp [hlt])
      have hsn : (l.take (i + 1)).any badE = badE l[i] := by rw [List.take_succ_eq_append_getElem hlt, List.any_append, HA.out]; simp
      have hin : badE l[i] = true → l.any badE = true := fun h => List.any_eq_true.2 ⟨l[i], List.getElem_mem hlt, h⟩
      generalize l[i] = x at *
      go_wp2_with fail
      refine (check1_any x _).mono ?_
      rintro e w' ⟨rfl, rfl⟩
      generalize badE x = bx at *
      cases bx
      · have HS := Lib.hid hsn
        clear hsn hin
        go_wp2_with fail
        go_roundw
        case rel => exact ⟨i + 1, by go_num, by omega, HS.out, by trivial⟩
        case measure => simp [intOf]; omega
      · have HI := Lib.hid (hin rfl)
        clear hsn hin
        go_wp2_with fail
        go_ret
        exact ⟨⟨_, rfl, by rw [HI.out]; exact decide_eq_true (by omega)⟩, rfl⟩
    · obtain rfl : i = l.length := by omega
      rw [List.take_length] at HA
      go_wp2_with fail
      go_ret
      exact ⟨⟨_, rfl, by rw [HA.out]; rfl⟩, rfl⟩

theorem containsE_any (v : Value) (l : List Int) (w : World) (hv : Rv w v l.length (l.map (Value.int .i64))) (hl : l.length ≤ 1099511627776) :
    Calls Try.prog 83 #[v, .func (.func 84) #[] #[]] w fun e w' => e = .returned (.bool (l.any badE)) ∧ w = w' := by
  go_enter Try.func83, Try.ntmps83
  go_wp2_with fail
  refine (indexE_any v l w hv hl).mono ?_
  rintro e w' ⟨⟨i, rfl, hi⟩, rfl⟩
  go_wp2_with fail
  go_ret
  exact ⟨rfl, rfl⟩

/-- An edit. -/
structure Ed where
  a : Int
  d : Int
  s : List Int
def Ed.val (e : Ed) (v : Value) : Value := .agg #[.int .i64 e.a, .int .i64 e.d, v]
/-- The error of an edit of a text of n symbols. -/
def chkE (n : Nat) (e : Ed) : Int :=
  if e.a < 0 ∨ e.d < 0 ∨ (n : Int) < e.a ∨ (n : Int) - e.a < e.d then 5
  else if e.s.any badE then 5
  else if 65536 < (n : Int) - e.d + (e.s.length : Int) then 4 else 0

/-- A variable of three cells. -/
def Box3 (w : World) (b : Nat) (c0 c1 c2 : Value) : Prop := w.heap[b]? = some (.cells #[c0, c1, c2] 45 (0, 0))
section
variable {w : World} {b : Nat} {c0 c1 c2 : Value}
theorem Box3.lt (h : Box3 w b c0 c1 c2) : b < w.heap.size := (Array.getElem?_eq_some_iff.1 h).1
theorem Box3.k0 (h : Box3 w b c0 c1 c2) : w.cell? ⟨b, 0, none⟩ = some c0 := by simp [World.cell?, show w.heap[b]? = _ from h]
theorem Box3.k1 (h : Box3 w b c0 c1 c2) : w.cell? ⟨b, 1, none⟩ = some c1 := by simp [World.cell?, show w.heap[b]? = _ from h]
theorem Box3.k2 (h : Box3 w b c0 c1 c2) : w.cell? ⟨b, 2, none⟩ = some c2 := by simp [World.cell?, show w.heap[b]? = _ from h]
theorem Box3.fr (h : Box3 w b c0 c1 c2) (j : Nat) : w.frozen? ⟨b, j, none⟩ = false := by simp [World.frozen?, show w.heap[b]? = _ from h]
theorem Box3.new (w : World) (c0 c1 c2 : Value) : Box3 (w.alloc (.cells #[c0, c1, c2] 45)) w.heap.size c0 c1 c2 := World.alloc_heap_new w _
theorem Box3.kept {w' : World} (h : Box3 w b c0 c1 c2) (hk : w'.heap[b]? = w.heap[b]?) : Box3 w' b c0 c1 c2 := hk.trans h
end

set_option maxHeartbeats 4000000 in
theorem check_any (v : Value) (l : List Int) (e : Ed) (iv : Value) (w : World) (hv : Rv w v l.length (l.map (Value.int .i64))) (hi : Rv w iv e.s.length (e.s.map (Value.int .i64))) (hl : l.length ≤ 1000000000) (hs : e.s.length ≤ 1000000000)
    (ha : -9223372036854775808 ≤ e.a ∧ e.a ≤ 9223372036854775807) (hd : -9223372036854775808 ≤ e.d ∧ e.d ≤ 9223372036854775807) :
    Calls Try.prog 63 #[v, e.val iv] w fun en w' => en = .returned (.int .i64 (chkE l.length e)) ∧ Below w.heap.size w w' := by
  obtain ⟨a, d, s⟩ := e
  obtain ⟨ao, cap, rfl, hcap, _⟩ := hv.opened
  obtain ⟨ai, ci, rfl, hci, _⟩ := hi.opened
  unfold Ed.val
  simp only at hs ha hd hi ⊢
  have C0 := Box3.new w (.int .i64 a) (.int .i64 d) (.slice ai s.length ci)
  have B0 : Below w.heap.size w (w.alloc (.cells #[.int .i64 a, .int .i64 d, .slice ai s.length ci] 45)) := (Below.refl _ w).alloc (Nat.le_refl _) _
  have hi0 := hi.below B0
  have k0 := C0.k0
  have k1 := C0.k1
  have k2 := C0.k2
  have hc : chkE l.length ⟨a, d, s⟩ = if a < 0 ∨ d < 0 ∨ (l.length : Int) < a ∨ (l.length : Int) - a < d then 5 else if s.any badE then 5 else if 65536 < (l.length : Int) - d + (s.length : Int) then 4 else 0 := rfl
  generalize chkE l.length ⟨a, d, s⟩ = r at *
  have HC := Lib.hid hc
  clear hc
  have h4 : a < 0 ∨ (¬ a < 0 ∧ d < 0) ∨ (¬ a < 0 ∧ ¬ d < 0 ∧ (l.length : Int) < a) ∨ (¬ a < 0 ∧ ¬ d < 0 ∧ ¬ (l.length : Int) < a ∧ (l.length : Int) - a < d) ∨ (¬ a < 0 ∧ ¬ d < 0 ∧ ¬ (l.length : Int) < a ∧ ¬ (l.length : Int) - a < d) := by omega
  rcases h4 with h | ⟨h, h'⟩ | ⟨h, h', h''⟩ | ⟨h, h', h'', h3⟩ | ⟨h, h', h'', h3⟩
  · have hr : r = 5 := by rw [HC.out, if_pos (.inl h)]
    subst hr
    clear HC
    go_enter Try.func63, Try.ntmps63
    go_wp2_with fail
    go_ret
    exact ⟨rfl, B0⟩
  · have hr : r = 5 := by rw [HC.out, if_pos (.inr (.inl h'))]
    subst hr
    clear HC
    go_enter Try.func63, Try.ntmps63
    go_wp2_with fail
    go_ret
    exact ⟨rfl, B0⟩
  · have hr : r = 5 := by rw [HC.out, if_pos (.inr (.inr (.inl h'')))]
    subst hr
    clear HC
    go_enter Try.func63, Try.ntmps63
    go_wp2_with fail
    go_ret
    exact ⟨rfl, B0⟩
  · have hr : r = 5 := by rw [HC.out, if_pos (.inr (.inr (.inr h3)))]
    subst hr
    clear HC
    go_enter Try.func63, Try.ntmps63
    go_wp2_with fail
    go_ret
    exact ⟨rfl, B0⟩
  · have HC2 : Hid (r = if s.any badE then 5 else if 65536 < (l.length : Int) - d + (s.length : Int) then 4 else 0) := by
      show _ = _
      rw [HC.out, if_neg (by omega)]
    clear HC
    go_enter Try.func63, Try.ntmps63
    go_wp2_with fail
    refine (containsE_any _ s _ hi0 (by omega)).mono ?_
    rintro e w' ⟨rfl, rfl⟩
    generalize s.any badE = bad at *
    cases bad
    · have HC3 := HC2.out
      rw [if_neg (by decide)] at HC3
      have HC4 := Lib.hid HC3
      clear HC3 HC2
      by_cases hbig : 65536 < (l.length : Int) - d + (s.length : Int)
      all_goals
        first
        | (have hr : r = 4 := HC4.out.trans (if_pos hbig)
           subst hr)
        | (have hr : r = 0 := HC4.out.trans (if_neg hbig)
           subst hr)
        clear HC4
        go_wp2_with fail
        go_ret
        exact ⟨rfl, B0⟩
    · have hr : r = 5 := HC2.out
      subst hr
      clear HC2
      go_wp2_with fail
      go_ret
      exact ⟨rfl, B0⟩
end Go.Proofs.Ytpehnggglolnoaa

/- The model of package text: the check of an edit. -/
namespace Go.Proofs.Ytpehnggglolnoaa
open Go.RowKit

end Go.Proofs.Ytpehnggglolnoaa
