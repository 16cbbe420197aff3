/- The model of package text: Valid, Encode. -/
import Derived.Test.YtcknnlbfbjcjjaaDoorTxtM
namespace Go.Proofs.YtcknnlbfbjcjjaaDoor
open Go.RowKit

/-- The error of a text. -/
def valM (l : List Int) (runes : Bool) : Int := if 65536 < l.length then 4 else if l.all (symB runes) then 0 else 5
/-- The encoding of a text. -/
def encM (l : List Int) (runes : Bool) : List UInt8 := l.flatMap fun x => oneM runes x.toNat
theorem encM_snoc (l : List Int) (runes : Bool) (i : Nat) (hi : i < l.length) : encM (l.take (i + 1)) runes = encM (l.take i) runes ++ oneM runes l[i].toNat := by
  simp only [encM, List.take_succ_eq_append_getElem hi, List.flatMap_append, List.flatMap_cons, List.flatMap_nil, List.append_nil]
theorem oneM_len (runes : Bool) (s : Nat) : (oneM runes s).length ≤ 4 := by
  unfold oneM
  split
  · simp
  split
  · simp
  split <;> simp
theorem encM_len (l : List Int) (runes : Bool) : (encM l runes).length ≤ 4 * l.length := by
  induction l with
  | nil => simp [encM]
  | cons x l ih =>
    have := oneM_len runes x.toNat
    simp only [encM, List.flatMap_cons, List.length_append, List.length_cons] at ih ⊢
    omega
theorem symB_nat {runes : Bool} {x : Int} (h : symB runes x = true) : 0 ≤ x ∧ x ≤ 1114111 ∧ (runes = false → x ≤ 255) := by
  unfold symB at h
  cases runes
  · simp at h; exact ⟨h.1, by omega, fun _ => h.2⟩
  · simp at h; exact ⟨by omega, by omega, fun e => by cases e⟩

set_option maxHeartbeats 2000000 in
theorem rvalid_any (v : Value) (l : List Int) (runes : Bool) (w : World) (hv : Rv w v l.length (l.map (Value.int .i64))) (hl : l.length ≤ 1000000000) :
    Calls Tryd.prog 36 #[v, .bool runes] w fun e w' => e = .returned (.int .i64 (valM l runes)) ∧ w = w' := by
  obtain ⟨ao, cap, rfl, hcap, hrd⟩ := hv.opened
  have hc : valM l runes = if 65536 < l.length then 4 else if l.all (symB runes) then 0 else 5 := rfl
  generalize valM l runes = r at *
  have HC := Lib.hid hc
  clear hc
  by_cases hbig : 65536 < l.length
  · have hr : r = 4 := by rw [HC.out, if_pos hbig]
    subst hr
    clear HC
    have hbi : (65536 : Int) < (l.length : Int) := by omega
    go_enter Tryd.func36, Tryd.ntmps36
    go_wp2_with fail
    go_ret
    exact ⟨rfl, rfl⟩
  · have hbi : ¬ (65536 : Int) < (l.length : Int) := by omega
    have HC2 : Hid (r = if l.all (symB runes) then 0 else 5) := by show _ = _; rw [HC.out, if_neg hbig]
    clear HC
    go_enter Tryd.func36, Tryd.ntmps36
    go_wp2_with fail
    go_loopw [5] (fun iv wr => ∃ i : Nat, iv = .int .i64 (i : Int) ∧ i ≤ l.length ∧ Hid ((l.take i).all (symB runes) = true) ∧ w = wr) (fun iv _ => l.length - (intOf iv).toNat)
    case atStart => exact ⟨0, rfl, Nat.zero_le _, rfl, rfl⟩
    case round =>
      obtain ⟨i, rfl, hi, HA, rfl⟩ := hrel
      by_cases hlt : i < l.length
      · obtain ⟨b2, off2, rfl, hcx⟩ := hrd.cell (i := i) (u := .int .i64 l[i]) (by simp [hlt])
        have hsn : (l.take (i + 1)).all (symB runes) = symB runes l[i] := by rw [List.take_succ_eq_append_getElem hlt, List.all_append, HA.out]; simp
        have hin : symB runes l[i] = false → l.all (symB runes) = false := fun h => List.all_eq_false.2 ⟨l[i], List.getElem_mem hlt, by rw [h]; decide⟩
        generalize l[i] = x at *
        go_wp2_with fail
        refine (rsymbol_any x runes _).mono ?_
        rintro e w' ⟨rfl, rfl⟩
        generalize symB runes x = bx at *
        cases bx
        · have hr : r = 5 := by rw [HC2.out, hin rfl]; rfl
          subst hr
          clear HC2 hsn hin
          go_wp2_with fail
          go_ret
          exact ⟨rfl, rfl⟩
        · have HS := Lib.hid hsn
          clear hsn hin
          go_wp2_with fail
          go_roundw
          case rel => exact ⟨i + 1, by go_num, by omega, HS.out, by trivial⟩
          case measure => simp [intOf]; omega
      · obtain rfl : i = l.length := by omega
        rw [List.take_length] at HA
        have hr : r = 0 := by rw [HC2.out, HA.out]; rfl
        subst hr
        clear HC2
        go_wp2_with fail
        go_ret
        exact ⟨rfl, rfl⟩

/-- Bytes and an error. -/
def EnPost (w : World) (r : Int) (us : List UInt8) (en : Ending) (w' : World) : Prop := ∃ v', en = .returned (.tuple #[v', .int .i64 r]) ∧ Made w w' 5 v' (us.map vB)
def encR (l : List Int) (runes : Bool) : List UInt8 := if valM l runes = 0 then encM l runes else []

set_option maxHeartbeats 2000000 in
theorem rencode_any (v : Value) (l : List Int) (runes : Bool) (w : World) (hv : Rv w v l.length (l.map (Value.int .i64))) (hl : l.length ≤ 1000000000) :
    Calls Tryd.prog 11 #[v, .bool runes] w (EnPost w (valM l runes) (encR l runes)) := by
  have hva := rvalid_any v l runes w hv hl
  obtain ⟨ao, cap, rfl, hcap, _⟩ := hv.opened
  have hus : encR l runes = if valM l runes = 0 then encM l runes else [] := rfl
  have hok : valM l runes = 0 → l.length ≤ 65536 ∧ ∀ x ∈ l, symB runes x = true := by
    intro h
    unfold valM at h
    split at h
    · cases h
    split at h
    · rename_i h1 h2
      exact ⟨by omega, fun x hx => List.all_eq_true.1 h2 x hx⟩
    · cases h
  generalize valM l runes = r at *
  generalize encR l runes = us at *
  have HU := Lib.hid hus
  clear hus
  by_cases h0 : r = 0
  · subst h0
    obtain ⟨hlen, hsym⟩ := hok rfl
    have hu0 : us = encM l runes := by rw [HU.out, if_pos rfl]
    have HU2 := Lib.hid hu0
    have HSY := Lib.hid hsym
    clear HU hok hu0 hsym
    go_enter Tryd.func11, Tryd.ntmps11
    go_wp2_with fail
    refine hva.mono ?_
    rintro e w' ⟨rfl, rfl⟩
    go_wp2_with fail
    go_loopw [7, 8] (fun ov iv wr => ∃ (i : Nat) (ys : List UInt8), iv = .int .i64 (i : Int) ∧ i ≤ l.length ∧ Hid (ys = encM (l.take i) runes) ∧ wr.ownsRow w.heap.size 5 1 ov ys.length (ys.map vB) ∧ Below w.heap.size w wr) (fun _ iv _ => l.length - (intOf iv).toNat)
    case atStart => exact ⟨0, [], rfl, Nat.zero_le _, rfl, World.ownsRow_nil _ _ _ _, Below.refl _ _⟩
    case round =>
      obtain ⟨i, ys, rfl, hi, HY, hown, hB⟩ := hrel
      have hyl : ys.length ≤ 300000 := by have := encM_len (l.take i) runes; rw [← HY.out, List.length_take] at this; omega
      have hsz := hB.size
      by_cases hlt : i < l.length
      · obtain ⟨b2, off2, ⟨_, he⟩, hcx⟩ := rvCell (hv.below hB) (i := i) hlt
        cases he
        have hsn := encM_snoc l runes i hlt
        rw [← HY.out] at hsn
        have hsy := symB_nat (HSY.out l[i] (List.getElem_mem hlt))
        generalize l[i] = x at *
        obtain ⟨s, rfl⟩ := Int.eq_ofNat_of_zero_le hsy.1
        have hs1 : runes = false → s ≤ 255 := fun h => by have := hsy.2.2 h; omega
        have hs2 : s ≤ 1114111 := by have := hsy.2.1; omega
        have HS : Hid (encM (l.take (i + 1)) runes = ys ++ oneM runes s) := hsn
        have h4 := oneM_len runes s
        have H1 := Lib.hid hs1
        clear hsn hsy hs1
        go_wp2_with fail
        refine (one_any s runes _ H1.out hs2).mono ?_
        rintro e w5 ⟨v5, rfl, M5⟩
        have hB5 := bel hB M5.2
        have hr5 := M5.rv
        rw [List.length_map] at hr5
        go_wp2_with (at_builtin; refine wpList_app _ rfl _ _ rfl Tryd.elB w.heap.size u7 ys.length _ rfl (own_below hown M5.2) _ (oneM runes s).length _ rfl hr5 (by simp) (ones_B _) (by omega) hB5.size ?_; intro v6 w6 hown6 hg6 _)
        go_roundw
        case rel => exact ⟨i + 1, ys ++ oneM runes s, by go_num, by omega, HS.out.symm, by simpa using hown6, hB5.grown hg6 hB5.size (fun g e => (hown.lt g e).1)⟩
        case measure => simp [intOf]; omega
      · obtain rfl : i = l.length := by omega
        rw [List.take_length] at HY
        go_wp2_with fail
        go_ret2
        exact ⟨_, rfl, by rw [HU2.out, ← HY.out]; have h := hown; rw [← List.length_map vB] at h; exact ⟨h, hB⟩⟩
  · have hne : (r != 0) = true := by simpa using h0
    have hne2 : (r == 0) = false := by simpa using h0
    have hu0 : us = [] := by rw [HU.out, if_neg h0]
    subst hu0
    clear HU hok h0
    go_enter Tryd.func11, Tryd.ntmps11
    go_wp2_with fail
    refine hva.mono ?_
    rintro e w' ⟨rfl, rfl⟩
    go_wp2_with fail
    go_ret2
    exact ⟨_, rfl, World.ownsRow_nil _ _ _ _, Below.refl _ _⟩
end Go.Proofs.YtcknnlbfbjcjjaaDoor
