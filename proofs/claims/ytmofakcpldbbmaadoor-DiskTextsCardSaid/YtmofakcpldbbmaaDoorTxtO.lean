/- Package text: Valid. -/
import Derived.Test.YtmofakcpldbbmaaDoorTxtN
namespace Go.Proofs.YtmofakcpldbbmaaDoor
open Go.RowKit

def topI (runes : Bool) : Int := if runes then 1114111 else 255
def outB (runes : Bool) (x : Int) : Bool := !symB runes x

set_option maxHeartbeats 2000000 in
theorem outside1_any (x : Int) (runes : Bool) (B : Nat) (w : World) (h1 : w.cell? ⟨B + 1, 0, none⟩ = some (.int .i64 (topI runes))) (h2 : w.cell? ⟨B, 0, none⟩ = some (.bool runes)) :
    Calls Tryd.prog 34 #[.int .i64 x, .pointer (some ⟨B + 1, 0, none⟩), .pointer (some ⟨B, 0, none⟩)] w fun e w' => e = .returned (.bool (outB runes x)) ∧ w = w' := by
  have hc : x < 0 ∨ (¬ x < 0 ∧ topI runes < x) ∨ (¬ x < 0 ∧ ¬ topI runes < x) := by omega
  have hs1 : x < 0 → outB runes x = true := fun h => by unfold outB symB; cases runes <;> simp <;> omega
  have hs2 : topI runes < x → outB runes x = true := fun h => by unfold outB symB; unfold topI at h; cases runes <;> simp at h ⊢ <;> omega
  have hs3 : ¬ x < 0 → ¬ topI runes < x → outB runes x = (runes && surr x) := fun h h' => by
    unfold outB symB surr; unfold topI at h'
    cases runes
    · simp at h' ⊢; omega
    · simp at h'
      rw [Bool.eq_iff_iff]
      simp
      omega
  generalize outB runes x = r at *
  generalize topI runes = top at *
  rcases hc with h | ⟨h, h'⟩ | ⟨h, h'⟩
  · have hr := hs1 h
    subst hr
    clear hs1 hs2 hs3
    go_enter Tryd.func34, Tryd.ntmps34
    go_wp2_with fail
    go_ret
    exact ⟨rfl, rfl⟩
  · have hr := hs2 h'
    subst hr
    clear hs1 hs2 hs3
    go_enter Tryd.func34, Tryd.ntmps34
    go_wp2_with fail
    go_ret
    exact ⟨rfl, rfl⟩
  · have hr := hs3 h h'
    subst hr
    clear hs1 hs2 hs3
    go_enter Tryd.func34, Tryd.ntmps34
    cases runes
    · go_wp2_with fail
      go_ret
      exact ⟨rfl, rfl⟩
    · go_wp2_with fail
      refine (surrogate_any x _).mono ?_
      rintro e w' ⟨rfl, rfl⟩
      go_wp2_with fail
      go_ret
      exact ⟨rfl, rfl⟩

set_option maxHeartbeats 1000000 in
/-- slices.IndexFunc with the function that outside makes: -1 exactly where none is bad. -/
theorem indexO_any (v : Value) (l : List Int) (w : World) (hv : Rv w v l.length (l.map (Value.int .i64))) (hl : l.length ≤ 1099511627776) (runes : Bool) (B : Nat) (h1 : w.cell? ⟨B + 1, 0, none⟩ = some (.int .i64 (topI runes))) (h2 : w.cell? ⟨B, 0, none⟩ = some (.bool runes)) :
    Calls Tryd.prog 33 #[v, .func (.func 34) #[] #[.pointer (some ⟨B + 1, 0, none⟩), .pointer (some ⟨B, 0, none⟩)]] w fun e w' => (∃ i : Int, e = .returned (.int .i64 i) ∧ decide (0 ≤ i) = l.any (outB runes)) ∧ w = w' := by
  obtain ⟨ao, cap, rfl, hcap, hrd⟩ := hv.opened
  go_enter Tryd.func33, Tryd.ntmps33
  go_wp2_with fail
  go_loopw [8] (fun iv wr => ∃ i : Nat, iv = .int .i64 (i : Int) ∧ i ≤ l.length ∧ Hid ((l.take i).any (outB runes) = false) ∧ w = wr) (fun iv _ => l.length - (intOf iv).toNat)
  case atStart => exact ⟨0, rfl, Nat.zero_le _, rfl, rfl⟩
  case round =>
    obtain ⟨i, rfl, hi, HA, rfl⟩ := hrel
    by_cases hlt : i < l.length
    · obtain ⟨b2, off2, rfl, hcx⟩ := hrd.cell (i := i) (u := .int .i64 l[i]) (by simp [hlt])
      have hsn : (l.take (i + 1)).any (outB runes) = (outB runes) l[i] := by rw [List.take_succ_eq_append_getElem hlt, List.any_append, HA.out]; simp
      have hin : (outB runes) l[i] = true → l.any (outB runes) = true := fun h => List.any_eq_true.2 ⟨l[i], List.getElem_mem hlt, h⟩
      generalize l[i] = x at *
      go_wp2_with fail
      refine (outside1_any x runes B _ h1 h2).mono ?_
      rintro e w' ⟨rfl, rfl⟩
      generalize (outB runes) x = bx at *
      cases bx
      · have HS := Lib.hid hsn
        clear hsn hin
        go_wp2_with fail
        go_roundw
        case rel => exact ⟨i + 1, by go_num, by omega, HS.out, by trivial⟩
        case measure => simp [intOf]; omega
      · have HI := Lib.hid (hin rfl)
        clear hsn hin
        go_wp2_with fail
        go_ret
        exact ⟨⟨_, rfl, by rw [HI.out]; exact decide_eq_true (by omega)⟩, rfl⟩
    · obtain rfl : i = l.length := by omega
      rw [List.take_length] at HA
      go_wp2_with fail
      go_ret
      exact ⟨⟨_, rfl, by rw [HA.out]; rfl⟩, rfl⟩

theorem containsO_any (v : Value) (l : List Int) (w : World) (hv : Rv w v l.length (l.map (Value.int .i64))) (hl : l.length ≤ 1099511627776) (runes : Bool) (B : Nat) (h1 : w.cell? ⟨B + 1, 0, none⟩ = some (.int .i64 (topI runes))) (h2 : w.cell? ⟨B, 0, none⟩ = some (.bool runes)) :
    Calls Tryd.prog 28 #[v, .func (.func 34) #[] #[.pointer (some ⟨B + 1, 0, none⟩), .pointer (some ⟨B, 0, none⟩)]] w fun e w' => e = .returned (.bool (l.any (outB runes))) ∧ w = w' := by
  go_enter Tryd.func28, Tryd.ntmps28
  go_wp2_with fail
  refine (indexO_any v l w hv hl runes B h1 h2).mono ?_
  rintro e w' ⟨⟨i, rfl, hi⟩, rfl⟩
  go_wp2_with fail
  go_ret
  exact ⟨rfl, rfl⟩


/-- What outside makes. -/
def OuPost (w : World) (runes : Bool) (en : Ending) (w' : World) : Prop :=
  en = .returned (.func (.func 34) #[] #[.pointer (some ⟨w.heap.size + 1, 0, none⟩), .pointer (some ⟨w.heap.size, 0, none⟩)]) ∧ w'.cell? ⟨w.heap.size + 1, 0, none⟩ = some (.int .i64 (topI runes)) ∧ w'.cell? ⟨w.heap.size, 0, none⟩ = some (.bool runes) ∧ Below w.heap.size w w'
set_option maxHeartbeats 1000000 in
theorem outside_any (runes : Bool) (w : World) : Calls Tryd.prog 29 #[.bool runes] w (OuPost w runes) := by
  go_enter Tryd.func29, Tryd.ntmps29
  cases runes
  · go_wp2_with fail
    go_ret
    refine ⟨rfl, ?_, ?_, ((Below.refl _ w).alloc (Nat.le_refl _) _).alloc (by simp) _⟩
    · rw [show w.heap.size + 1 = (w.alloc (.cells #[.bool false] 4)).heap.size from by simp]
      simp [topI]
    · exact (((Below.refl _ (w.alloc (.cells #[.bool false] 4))).alloc (Nat.le_refl _) _).cell (p := ⟨w.heap.size, 0, none⟩) (by simp)).trans (by simp)
  · go_wp2_with fail
    go_ret
    refine ⟨rfl, ?_, ?_, ((Below.refl _ w).alloc (Nat.le_refl _) _).alloc (by simp) _⟩
    · rw [show w.heap.size + 1 = (w.alloc (.cells #[.bool true] 4)).heap.size from by simp]
      simp [topI]
    · exact (((Below.refl _ (w.alloc (.cells #[.bool true] 4))).alloc (Nat.le_refl _) _).cell (p := ⟨w.heap.size, 0, none⟩) (by simp)).trans (by simp)

theorem outAll (l : List Int) (runes : Bool) : l.any (outB runes) = !l.all (symB runes) := by
  induction l with
  | nil => rfl
  | cons x l ih => rw [List.any_cons, List.all_cons, ih, outB, Bool.not_and]

set_option maxHeartbeats 1000000 in
theorem valid_any (v : Value) (l : List Int) (runes : Bool) (w : World) (hv : Rv w v l.length (l.map (Value.int .i64))) (hl : l.length ≤ 1000000000) :
    Calls Tryd.prog 16 #[v, .bool runes] w fun e w' => e = .returned (.int .i64 (valM l runes)) ∧ Below w.heap.size w w' := by
  obtain ⟨ao, cap, rfl, hcap, hrd⟩ := hv.opened
  have hc : valM l runes = if 65536 < l.length then 4 else if l.all (symB runes) then 0 else 5 := rfl
  generalize valM l runes = r at *
  have HC := Lib.hid hc
  clear hc
  by_cases hbig : 65536 < l.length
  · have hr : r = 4 := by rw [HC.out, if_pos hbig]
    subst hr
    clear HC
    have hbi : (65536 : Int) < (l.length : Int) := by omega
    go_enter Tryd.func16, Tryd.ntmps16
    go_wp2_with fail
    go_ret
    exact ⟨rfl, Below.refl _ _⟩
  · have hbi : ¬ (65536 : Int) < (l.length : Int) := by omega
    have HC2 : Hid (r = if l.all (symB runes) then 0 else 5) := by show _ = _; rw [HC.out, if_neg hbig]
    clear HC
    go_enter Tryd.func16, Tryd.ntmps16
    go_wp2_with fail
    refine (outside_any runes w).mono ?_
    rintro e w1 ⟨rfl, c1, c2, B1⟩
    go_wp2_with fail
    refine (containsO_any _ l _ (hv.below B1) (by omega) runes w.heap.size c1 c2).mono ?_
    rintro e w' ⟨rfl, rfl⟩
    rw [outAll]
    generalize l.all (symB runes) = al at *
    cases al
    · have hr : r = 5 := HC2.out
      subst hr
      clear HC2
      go_wp2_with fail
      go_ret
      exact ⟨rfl, B1⟩
    · have hr : r = 0 := HC2.out
      subst hr
      clear HC2
      go_wp2_with fail
      go_ret
      exact ⟨rfl, B1⟩
end Go.Proofs.YtmofakcpldbbmaaDoor
