/- slices.Grow of nothing, slices.Concat, slices.Clone. -/
import Derived.Test.YtpehnggglolnoaaTxtE
import Derived.Lib.AppendZeros
import Derived.Lib.SliceRun
namespace Go.Proofs.Ytpehnggglolnoaa
open Go.RowKit

theorem zc_size (n : Nat) : (Builtin.zeroCells (Value.int .i64 0).cells n).size = n := by
  simp [Builtin.zeroCells, Value.cells]

set_option maxRecDepth 20000 in
set_option maxHeartbeats 1000000 in
theorem grow_any (n : Nat) (hn : n ≤ 1000000000) (w : World) :
    Calls Try.prog 85 #[.slice none 0 0, .int .i64 (n : Int)] w fun e w' => ∃ v', e = .returned v' ∧ w'.ownsRow w.heap.size 3 1 v' 0 [] ∧ Below w.heap.size w w' := by
  obtain ⟨i, hi, hz, hsize, hby⟩ := info_parts Try.infoI
  by_cases h0 : n = 0
  · subst h0
    clear hi hz hsize hby
    go_enter Try.func85, Try.ntmps85
    go_wp2_with fail
    go_ret
    exact ⟨_, rfl, World.ownsRow_nil _ _ _ _, Below.refl _ _⟩
  · have hpos : (0 : Int) < (n : Int) := by omega
    have hap := Lib.run_append_nil_zeros (P := Try.prog) w 22 3 22 3 i (.int .i64 0) .i64 .i64 Try.underlying22 Try.underlying3 hi hz n (by omega) (by rw [hsize]; decide) (by omega) (by rw [hby]; omega)
    have HAP := Lib.hid hap
    have h0' : ¬ n = 0 := h0
    clear hap hz hsize hby hi
    go_enter Try.func85, Try.ntmps85
    go_wp2_with (at_builtin; refine Lib.wpList_append_run _ rfl _ _ _ _ rfl _ _ rfl rfl _ _ HAP.out ?_)
    go_ret
    refine ⟨_, rfl, ⟨rfl, .inr ⟨w.heap.size, _, _, rfl, Nat.le_refl _, World.alloc_heap_new w _, Nat.zero_le _, grownCap_le_maxLen _ _ _ _ (by unfold maxLen; omega), ?_, rfl⟩⟩, ((Below.refl _ w).alloc (Nat.le_refl _) _).drew⟩
    have hge := grownCap_ge w n 0 3
    rw [Array.size_append]
    have z1 := zc_size n
    have z2 := zc_size (grownCap w n 0 3 - n)
    simp only [Value.cells] at z1 z2
    rw [z1, z2]
    omega

/-- The values of a list of slices, and what they hold. -/
abbrev PL := List (Value × List Int)
def joinP (ps : PL) : List Int := ps.flatMap (·.2)
theorem joinP_snoc (ps : PL) (i : Nat) (hi : i < ps.length) : joinP (ps.take (i + 1)) = joinP (ps.take i) ++ ps[i].2 := by
  simp only [joinP, List.take_succ_eq_append_getElem hi, List.flatMap_append, List.flatMap_cons, List.flatMap_nil, List.append_nil]
theorem joinP_le (ps : PL) (i : Nat) : (joinP (ps.take i)).length ≤ (joinP ps).length := by
  have h : joinP (ps.take i ++ ps.drop i) = joinP (ps.take i) ++ joinP (ps.drop i) := by simp only [joinP, List.flatMap_append]
  rw [List.take_append_drop] at h
  rw [h, List.length_append]
  omega

set_option maxRecDepth 20000 in
set_option maxHeartbeats 4000000 in
theorem concat_any (c : Value) (ps : PL) (w : World) (hc : Rv w c ps.length (ps.map (·.1))) (hp : ∀ p ∈ ps, Rv w p.1 p.2.length (p.2.map (Value.int .i64))) (hl : (joinP ps).length ≤ 1000000000) (hk : ps.length ≤ 1000) :
    Calls Try.prog 64 #[c] w (RetMade w 3 ((joinP ps).map (Value.int .i64))) := by
  obtain ⟨ao, cap, rfl, hcap, _⟩ := hc.opened
  have HP := Lib.hid hp
  clear hp
  go_enter Try.func64, Try.ntmps64
  go_wp2_with fail
  go_loopw [3, 11] (fun sv iv wr => ∃ i : Nat, iv = .int .i64 (i : Int) ∧ sv = .int .i64 ((joinP (ps.take i)).length : Int) ∧ i ≤ ps.length ∧ w = wr) (fun _ iv _ => ps.length - (intOf iv).toNat)
  case atStart => exact ⟨0, rfl, rfl, Nat.zero_le _, rfl⟩
  case round =>
    obtain ⟨i, rfl, rfl, hi, rfl⟩ := hrel
    by_cases hlt : i < ps.length
    · have hq := HP.out ps[i] (List.getElem_mem hlt)
      have hsn := joinP_snoc ps i hlt
      have hle := joinP_le ps (i + 1)
      obtain ⟨b2, off2, rfl, hcx⟩ := hc.rd.cell (i := i) (u := ps[i].1) (by simp [hlt])
      generalize ps[i] = p at *
      obtain ⟨pv, pl⟩ := p
      simp only at hq hsn hcx
      obtain ⟨ap, cp, rfl, _, _⟩ := hq.opened
      rw [hsn, List.length_append] at hle
      have HS : Hid ((joinP (ps.take (i + 1))).length = (joinP (ps.take i)).length + pl.length) := by show _ = _; rw [hsn, List.length_append]
      clear hsn
      generalize (joinP (ps.take i)).length = m at *
      go_wp2_with fail
      go_roundw
      case rel => exact ⟨i + 1, by go_num, by rw [HS.out]; go_num, by omega, by trivial⟩
      case measure => simp [intOf]; omega
    · obtain rfl : i = ps.length := by omega
      rw [List.take_length]
      go_wp2_with fail
      refine (grow_any (joinP ps).length hl w).mono ?_
      rintro e w1 ⟨v1, rfl, own1, B1⟩
      obtain ⟨k1, a1, c1, rfl⟩ := own_shape own1
      go_wp2_with fail
      go_loopw [6, 27] (fun ov iv wr => ∃ (i : Nat) (ys : List Int), iv = .int .i64 (i : Int) ∧ i ≤ ps.length ∧ Hid (ys = joinP (ps.take i)) ∧ wr.ownsRow w.heap.size 3 1 ov ys.length (ys.map (Value.int .i64)) ∧ Below w.heap.size w wr) (fun _ iv _ => ps.length - (intOf iv).toNat)
      case atStart => exact ⟨0, [], rfl, Nat.zero_le _, rfl, own1, B1⟩
      case round =>
        obtain ⟨i, ys, rfl, hi, HY, hown, hB⟩ := hrel
        have hsz := hB.size
        by_cases hlt : i < ps.length
        · have hq := (HP.out ps[i] (List.getElem_mem hlt)).below hB
          have hsn := joinP_snoc ps i hlt
          have hle := joinP_le ps (i + 1)
          obtain ⟨b2, off2, rfl, hcx⟩ := (hc.below hB).rd.cell (i := i) (u := ps[i].1) (by simp [hlt])
          generalize ps[i] = p at *
          obtain ⟨pv, pl⟩ := p
          simp only at hq hsn hcx
          obtain ⟨ap, cp, rfl, _, _⟩ := hq.opened
          rw [hsn, List.length_append, ← HY.out] at hle
          rw [← HY.out] at hsn
          have HS := Lib.hid hsn
          clear hsn
          go_wp2_with (at_builtin; refine wpList_app _ rfl _ _ rfl Try.elI w.heap.size u6 ys.length _ rfl hown (.slice ap pl.length cp) pl.length (pl.map (Value.int .i64)) rfl hq (by simp) (ones_I _) (by omega) hsz ?_; intro v5 w5 hown5 hg5 _)
          go_roundw
          case rel => exact ⟨i + 1, ys ++ pl, by go_num, by omega, HS.out.symm, by simpa using hown5, hB.grown hg5 hsz (fun g e => (hown.lt g e).1)⟩
          case measure => simp [intOf]; omega
        · obtain rfl : i = ps.length := by omega
          go_wp2_with fail
          go_ret
          exact retMade hown (by rw [HY.out, List.take_length]) hB

end Go.Proofs.Ytpehnggglolnoaa
