/- Contracts of the reference's mix and Words. -/
import Derived.Test.YtpehnggglolnoaaGreatHashC
namespace Go.Proofs.YtpehnggglolnoaaGreat
open Go.RowKit

theorem Tryz.infoU : (Tryz.prog.info? 76).map (fun i => (i.zero, i.size, i.bytes)) = some (some (.int .u64 0), 1, 8) := by kernel_rfl
theorem Tryz.elU : Elem Tryz.prog 100 76 (.int .u64 0) 1 8 := ⟨Tryz.underlying100, Tryz.infoU, rfl, by decide, by decide⟩

theorem rmix_any (a b : Int) (w : World) :
    Calls Tryz.prog 91 #[.int .u64 a, .int .u64 b] w fun e w' => e = .returned (.int .u64 (mixI a b)) ∧ w = w' := by
  go_enter Tryz.func91, Tryz.ntmps91
  go_wp2
  go_ret
  exact ⟨ret_val (congrArg (Value.int .u64) (mix_spell' a b)), rfl⟩

set_option maxHeartbeats 1000000 in
theorem words_any (v : Value) (bs : List UInt8) (w : World) (hv : Rv w v bs.length (bs.map vB)) (hbs : bs.length ≤ 1099511627776) :
    Calls Tryz.prog 66 #[v] w (RetMade w 76 ((words bs).map vU)) := by
  obtain ⟨ao, cap, rfl, hc, _, _, hrd⟩ := hv
  go_enter Tryz.func66, Tryz.ntmps66
  go_wp2
  go_loopw [3, 4] (fun out i wr => ∃ k : Nat, k ≤ nWords bs ∧ i = .int .i64 (8 * k : Nat) ∧ wr.ownsRow w.heap.size 76 1 out k ((wordsTo bs k).map vU) ∧ Below w.heap.size w wr) (fun _ i _ => bs.length + 8 - (intOf i).toNat)
  case atStart => exact ⟨0, Nat.zero_le _, rfl, World.ownsRow_nil _ _ _ _, Below.refl _ _⟩
  case round =>
    obtain ⟨k, hk, rfl, hown, hB⟩ := hrel
    obtain ⟨wo, rfl⟩ : ∃ wo : World, wo = wr := ⟨_, rfl⟩
    have hrd' := hrd.below hB
    have hnw : nWords bs * 8 < bs.length + 8 := by unfold nWords; omega
    have hnw' : bs.length ≤ nWords bs * 8 := by unfold nWords; omega
    by_cases hlt : 8 * k < bs.length
    · obtain ⟨hi, hhi⟩ : ∃ hi, hi = min (8 * k + 8) bs.length := ⟨_, rfl⟩
      have hi1 : hi ≤ 8 * k + 8 := by omega
      have hi2 : hi ≤ bs.length := by omega
      have hi3 : 8 * k < hi := by omega
      have hi4 : ¬ bs.length < 8 * k + 8 → 8 * k + 8 ≤ hi := by omega
      have hi5 : bs.length < 8 * k + 8 → bs.length ≤ hi := by omega
      have HH := Lib.hid hhi
      have HO := Lib.hid hown
      clear hhi hown
      by_cases h8 : bs.length < 8 * k + 8
      all_goals
        have h9 := hi4
        have h10 := hi5
        clear hi4 hi5
        simp only [h8, not_true_eq_false, not_false_eq_true, forall_const, false_implies] at h9 h10
        go_wp2
        go_loop [5, 6] (fun wv kv => ∃ j : Nat, 8 * k ≤ j ∧ j ≤ hi ∧ kv = .int .i64 ((j : Int) - 1) ∧ wv = .int .u64 (leN ((bs.take hi).drop j) : Nat)) (fun _ kv => (intOf kv + 1).toNat)
        case atStart => exact ⟨hi, by omega, Nat.le_refl _, by go_num, by rw [List.drop_of_length_le (by simp; omega)]; rfl⟩
        case round =>
          obtain ⟨j, hj1, hj2, rfl, rfl⟩ := hrel
          have hsm := leN_small (bs := bs) (hi := hi) (k := j) (by omega)
          by_cases hj : 8 * k < j
          · obtain ⟨b, hb⟩ := getE (xs := bs) (k := j - 1) (by omega)
            have hst := leN_step (bs := bs) (hi := hi) (k := j - 1) (by omega) hb
            have hsm' := leN_small (bs := bs) (hi := hi) (k := j - 1) (by omega)
            rw [show j - 1 + 1 = j from by omega] at hst
            obtain ⟨bk, off, rfl, hcx⟩ := hrd'.cell (i := j - 1) (u := vB b) (by simp [hb])
            simp only [vB] at hcx
            have HS := Lib.hid hst
            have hlt' : b.toNat + 256 * leN ((bs.take hi).drop j) < 18446744073709551616 := by omega
            clear hst hb
            obtain ⟨q, hq⟩ : ∃ q, q = leN ((bs.take hi).drop j) := ⟨_, rfl⟩
            rw [← hq] at hlt' hsm ⊢
            go_wp2
            go_round
            case rel => exact ⟨j - 1, by omega, by omega, by go_num, by rw [HS.out]; go_num⟩
            case measure => simp [intOf]; omega
          · obtain rfl : j = 8 * k := by omega
            have hsz := hB.size
            go_wp2_with (at_builtin; refine wpList_app _ rfl _ _ rfl Tryz.elU w.heap.size _ k _ rfl (HO.out.alloc _) _ 1 [_] rfl (Rv.one _ _ _) rfl (map_oneCell (fun _ : Unit => Value.int .u64 (leN ((bs.take hi).drop (8 * k)) : Nat)) (fun _ => rfl) [()]) (by omega) (by simp; omega) ?_; intro v' w' hown hg _)
            have hg' := hown
            go_roundw
            case rel =>
              refine ⟨k + 1, by omega, by go_num, ?_, (hB.alloc hB.size _).grown hg (by simp; omega) ?_⟩
              · rw [wordsTo_succ, List.map_append]
                have hv : Value.int .u64 (leN ((bs.take hi).drop (8 * k)) : Nat) = vU (wordAt bs k) := by rw [vU, wordAt_val, HH.out]
                rw [hv] at hg'
                exact hg'
              · exact fun b hb => (HO.out.lt b hb).1
            case measure => simp [intOf]; omega
    · go_wp2
      go_ret
      obtain rfl : k = nWords bs := by omega
      exact retMade hown rfl hB
end Go.Proofs.YtpehnggglolnoaaGreat
