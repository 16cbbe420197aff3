/- Package journal: the records' iterator, Scan. -/
import Derived.Test.YtpehnggglolnoaaJrnF
import Derived.Test.YtpehnggglolnoaaRngE
namespace Go.Proofs.Ytpehnggglolnoaa
open Go.RowKit Go.Shelf

attribute [local go_sem] Oper.semAt_some

/-- An element: the record's slice, its bytes, the end of its frame. -/
abbrev El := Value × List UInt8 × Int
def lastEnd (xs : List El) : Int := (xs.getLast?.map (·.2.2)).getD 0
/-- Its bytes lie in a row of their own. -/
def ElIn (s : Nat) (pre : List El) (x : El) (W : World) : Prop := W.ownsRow s 5 1 x.1 x.2.1.length (x.2.1.map vB) ∧ pre.length < 1000000000
def scanS (bs : List UInt8) (xs : List El) : Prop := xs.map (·.2.1) = (scanL bs).1 ∧ lastEnd xs = ((scanL bs).2 : Int)

theorem records_in (a : Option Addr) (len cap : Nat) (n : Nat) (w : World) :
    CallsIn Fence.wide n Try.prog 69 #[.slice a len cap] w fun e w' => e = .returned (.func (.func 89) #[] #[.pointer (some ⟨w.heap.size, 0, none⟩)]) ∧ w' = w.alloc (.cells #[.slice a len cap] 49) := by
  refine callsIn_of_wp Try.func69 rfl trivial ?_ rfl
  simp only [Try.ntmps69, List.size_toArray, List.length_cons, List.length_nil, Nat.reduceAdd, Nat.reduceSub, Array.replicate_succ, Array.replicate_zero, List.push_toArray, List.append_toArray, List.nil_append, List.cons_append]
  gi_wp2
  go_ret
  exact ⟨rfl, rfl⟩

set_option maxRecDepth 100000 in
set_option maxHeartbeats 4000000 in
theorem records1_in (X : Nat → Prop) (n : Nat) (hn : 1 ≤ n) (l Bs B cap : Nat) (ao : Option Addr) (bs : List UInt8) (hlen : bs.length ≤ 1000000000) (J Jx : List El → World → Prop) (W : World)
    (hJ : ∀ pre A C, J pre A → Below A.heap.size A C → J pre C)
    (hY : ∀ pre x W1, J pre W1 → ElIn Bs pre x W1 → YieldAt Fence.wide (n - 1) Try.prog l #[x.1, .int .i64 x.2.2] W1 fun e W' =>
      (e = .returned (.bool true) ∧ J (pre ++ [x]) W' ∧ KeepX X B W1 W') ∨ (e = .returned (.bool false) ∧ Jx (pre ++ [x]) W'))
    (hBs : W.cell? ⟨Bs, 0, none⟩ = some (.slice ao bs.length cap)) (hBB : Bs < B) (hBX : ¬ X Bs) (hBW : B ≤ W.heap.size) (hc : bs.length ≤ cap) (hcm : cap ≤ maxLen) (hrd : Rd W ao (bs.map vB)) (hno : ao = none → cap = 0)
    (hb : ∀ b off, ao = some ⟨b, off, none⟩ → 0 < bs.length → b < B ∧ ¬ X b) (h0 : J [] W) :
    CallsIn Fence.wide n Try.prog 89 #[.func (.yield l) #[] #[], .pointer (some ⟨Bs, 0, none⟩)] W fun e W' => (∃ v, e = .returned v) ∧ ((∃ xs, scanS bs xs ∧ J xs W') ∨ ∃ pre, Jx pre W') := by
  refine callsIn_of_wp Try.func89 rfl trivial ?_ rfl
  simp only [Try.ntmps89, List.size_toArray, List.length_cons, List.length_nil, Nat.reduceAdd, Nat.reduceSub, Array.replicate_succ, Array.replicate_zero, List.push_toArray, List.append_toArray, List.nil_append, List.cons_append]
  gi_wp2
  gi_loopw [3, 4] (fun ev kv wr => ∃ (k p : Nat) (pre : List El), ev = .int .i64 (p : Int) ∧ kv = .int .i64 (k : Int) ∧ p ≤ bs.length ∧ k ≤ p ∧ pre.length = k ∧ lastEnd pre = (p : Int) ∧
    Hid (scanL bs = (pre.map (·.2.1) ++ (scanJ (bs.length - p) k (bs.drop p)).1, p + (scanJ (bs.length - p) k (bs.drop p)).2)) ∧ J pre wr ∧ KeepX X B W wr) (fun ev _ _ => bs.length + 1 - (intOf ev).toNat)
  case atStart => exact ⟨0, 0, [], rfl, rfl, Nat.zero_le _, Nat.le_refl _, rfl, rfl, by show scanL bs = _; simp [scanL], h0, KeepX.refl _ _ _⟩
  case round =>
    obtain ⟨k, p, pre, rfl, rfl, hp, hkp, hpl, hle, HS, hJp, hK⟩ := hrel
    have hBs1 := (hK.cell (p := ⟨Bs, 0, none⟩) hBB hBX).trans hBs
    have hBlt : Bs ≤ wr.heap.size := Nat.le_of_lt (World.block_lt_of_cell? _ _ hBs1)
    have hld : (bs.drop p).length = bs.length - p := List.length_drop
    have hrv : ∀ A m C, A = (if cap = p then ao else ao.map (·.add p)) → m = bs.length - p → C = cap - p → Rv wr (.slice A m C) (bs.drop p).length ((bs.drop p).map vB) := by
      intro A m C hA hm hC
      rw [hA, hm, hC, hld]
      have hv : Rv wr (.slice ao bs.length cap) bs.length (bs.map vB) := by
        refine ⟨_, _, rfl, hc, hcm, hno, ?_⟩
        rcases hrd with hrd | ⟨g, off, rfl, hrd⟩
        · exact .inl hrd
        · refine .inr ⟨g, off, rfl, fun i u hi => ?_⟩
          have hpos : 0 < bs.length := by
            have := (List.getElem?_eq_some_iff.1 hi).1
            rw [List.length_map] at this
            omega
          obtain ⟨hg1, hg2⟩ := hb g off rfl hpos
          exact (hK.cell (p := ⟨g, off + i, none⟩) hg1 hg2).trans (hrd i u hi)
      obtain ⟨a', c', e1, _, e3⟩ := hv.sliced 1 p bs.length hp (Nat.le_refl _)
      cases e1
      rw [List.map_drop]
      have ht : ((bs.map vB).drop p).take (bs.length - p) = (bs.map vB).drop p := List.take_of_length_le (by simp)
      simp only [Nat.mul_one] at e3
      rw [ht] at e3
      exact e3
    have hf := fun v w1 h => first_any v (bs.drop p) (k : Int) w1 h (by omega) (by omega)
    have hpc : (p : Int) ≤ (bs.length : Int) := by omega
    have hpd : (p : Int) ≤ (cap : Int) := by omega
    have HV := Lib.hid hrv
    have HF := Lib.hid hf
    clear hrv hf
    cases hfj : firstJ (k : Int) (bs.drop p) with
    | none =>
      rw [hfj] at HF
      have hst : scanJ (bs.length - p) k (bs.drop p) = ([], 0) := by
        cases bs.length - p with
        | zero => rfl
        | succ f => rw [scanJ, hfj]
      have HS2 : Hid (scanS bs pre) := by
        show scanS bs pre
        rw [scanS, HS.out, hst]
        simp [hle]
      clear HS hst hfj
      gi_wp2_with (refine ⟨trivial, ?_⟩; gi_at_call 90; refine (callsIn_wide.2 (HF.out _ _ (HV.out _ _ _ (by simp [*]) (by omega) (by omega)))).mono ?_; rintro e w5 ⟨B5, rfl⟩)
      all_goals
        refine bodyPost_ret (results_none rfl _ _ _) rfl ?_
        exact ⟨⟨_, rfl⟩, .inl ⟨pre, HS2.out, hJ pre wr w5 hJp B5⟩⟩
    | some raw =>
      rw [hfj] at HF
      have hpre := (firstJ_pre hfj).length_le
      have hm1 := frameM_pos (k : Int) raw
      obtain ⟨m, hm⟩ : ∃ m, (frameM (k : Int) raw).length = m := ⟨_, rfl⟩
      have hf2 : ∀ v w1, Rv w1 v (bs.drop p).length ((bs.drop p).map vB) → Calls Try.prog 90 #[v, .int .i64 (k : Int)] w1 fun e w' =>
          Below w1.heap.size w1 w' ∧ ∃ rv, e = .returned (.tuple #[rv, .int .i64 (m : Int), .bool true]) ∧ w'.ownsRow w1.heap.size 5 1 rv raw.length (raw.map vB) := by
        intro v w1 h
        have := HF.out v w1 h
        unfold FstPost at this
        simp only [hm] at this
        exact this
      rw [hm] at hpre hm1
      have hpm : p + m ≤ bs.length := by omega
      have hst : scanJ (bs.length - p) k (bs.drop p) = (raw :: (scanJ (bs.length - (p + m)) (k + 1) (bs.drop (p + m))).1, m + (scanJ (bs.length - (p + m)) (k + 1) (bs.drop (p + m))).2) := by
        obtain ⟨f, hfe⟩ : ∃ f, bs.length - p = f + 1 := ⟨bs.length - p - 1, by omega⟩
        rw [hfe, scanJ, hfj]
        simp only [hm, List.drop_drop]
        rw [scanJ_fuel f (bs.length - (p + m)) (k + 1) (bs.drop (p + m)) (by rw [List.length_drop]; omega) (by rw [List.length_drop]; omega)]
      have HS2 : Hid (∀ x : El, x.2.1 = raw → scanL bs = ((pre ++ [x]).map (·.2.1) ++ (scanJ (bs.length - (p + m)) (k + 1) (bs.drop (p + m))).1, (p + m) + (scanJ (bs.length - (p + m)) (k + 1) (bs.drop (p + m))).2)) := by
        intro x hx
        rw [HS.out, hst, ← hx]
        simp [Nat.add_assoc]
      have HF2 := Lib.hid hf2
      have hKB : ∀ w5, Below wr.heap.size wr w5 → KeepX X B W w5 := fun w5 h5 q hq hx => by
        have h1 := hK q hq hx
        have hlt5 : q < wr.heap.size := by
          rcases Nat.lt_or_ge q wr.heap.size with h | h
          · exact h
          · rw [Array.getElem?_eq_none h, Array.getElem?_eq_getElem (by omega)] at h1; cases h1
        exact (h5.block q hlt5).trans h1
      have hpI : (p : Int) + (m : Int) ≤ 1000000000 := by omega
      clear HS hst hfj HF hf2 hm hpre hle hld
      gi_wp2_with (refine ⟨trivial, ?_⟩; gi_at_call 90; refine (callsIn_wide.2 (HF2.out _ _ (HV.out _ _ _ (by first | rw [if_pos (by assumption)] | rw [if_neg (by omega)]) (by omega) (by omega)))).mono ?_; rintro e w5 ⟨B5, rv, rfl, O5⟩; obtain ⟨fn, tmps, assign, bdy, hy, hR⟩ := hY pre (rv, raw, (p : Int) + (m : Int)) w5 (hJ pre wr w5 hJp B5) ⟨own_base O5 hBlt, by omega⟩)
      all_goals
        refine hR.mono ?_
        rintro e W3 (⟨rfl, hJ3, hk3⟩ | ⟨rfl, hJx3⟩)
        · gi_wp2
          go_roundw
          case rel => exact ⟨k + 1, p + m, pre ++ [(rv, raw, (p : Int) + (m : Int))], by go_num, by go_num, hpm, by omega, by simp [hpl], by simp [lastEnd], HS2.out _ rfl, hJ3, (hKB w5 B5).trans hk3⟩
          case measure => simp [intOf]; omega
        · gi_wp2
          refine bodyPost_ret (results_none rfl _ _ _) rfl ?_
          exact ⟨⟨_, rfl⟩, .inr ⟨_, hJx3⟩⟩
end Go.Proofs.Ytpehnggglolnoaa
