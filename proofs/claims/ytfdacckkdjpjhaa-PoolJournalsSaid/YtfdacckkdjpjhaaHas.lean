/- The contract of Has. -/
import Derived.Test.YtfdacckkdjpjhaaLibIn
import Derived.Test.YtfdacckkdjpjhaaRefA
namespace Go.Proofs.Ytfdacckkdjpjhaa
open Go.RowKit

def hasB (l : List Int) (x : Int) : Bool := decide (x ∈ l)
set_option maxHeartbeats 1000000 in
theorem has_any (v : Value) (l : List Int) (x : Int) (w : World) (hv : Rv w v l.length (l.map (Value.int .i64))) (hl : l.length ≤ 1099511627776) :
    Calls Try.prog 27 #[v, .int .i64 x] w fun e w' => e = .returned (.bool (hasB l x)) ∧ w = w' := by
  obtain ⟨ao, cap, rfl, hcap, hrd⟩ := hv.opened
  obtain ⟨r, hr⟩ : ∃ r, r = hasB l x := ⟨_, rfl⟩
  rw [← hr]
  have HR := Lib.hid hr
  clear hr
  go_enter Try.func27, Try.ntmps27
  go_wp2_with fail
  go_loopw [5] (fun iv wr => ∃ i : Nat, iv = .int .i64 (i : Int) ∧ i ≤ l.length ∧ Hid (¬ x ∈ l.take i) ∧ w = wr) (fun iv _ => l.length - (intOf iv).toNat)
  case atStart => exact ⟨0, rfl, Nat.zero_le _, (fun h => by cases h), rfl⟩
  case round =>
    obtain ⟨i, rfl, hi, HN, rfl⟩ := hrel
    by_cases hlt : i < l.length
    · obtain ⟨b2, off2, rfl, hcx⟩ := hrd.cell (i := i) (u := .int .i64 l[i]) (by simp [hlt])
      have hsn : l.take (i + 1) = l.take i ++ [l[i]] := List.take_succ_eq_append_getElem hlt
      by_cases hx : l[i] = x
      · have hin : r = true := HR.out.trans (decide_eq_true (hx ▸ List.getElem_mem hlt))
        subst hin
        rw [hx] at hcx
        clear hsn hx
        go_wp2_with fail
        go_ret
        exact ⟨rfl, rfl⟩
      · have HS : Hid (¬ x ∈ l.take (i + 1)) := by
          show ¬ _
          rw [hsn]
          intro h
          rcases List.mem_append.1 h with h | h
          · exact HN.out h
          · exact hx (List.mem_singleton.1 h).symm
        have hb : (l[i] == x) = false := beq_eq_false_iff_ne.2 hx
        clear hsn
        generalize l[i] = y at *
        go_wp2_with fail
        go_roundw
        case rel => exact ⟨i + 1, by go_num, by omega, HS, by trivial⟩
        case measure => simp [intOf]; omega
    · obtain rfl : i = l.length := by omega
      have hin : r = false := HR.out.trans (decide_eq_false (by have := HN.out; rwa [List.take_length] at this))
      subst hin
      go_wp2_with fail
      go_ret
      exact ⟨rfl, rfl⟩

end Go.Proofs.Ytfdacckkdjpjhaa
