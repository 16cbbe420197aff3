/- Contracts of the reference's hash: mix, Words, Sum, Bytes, Pair. -/
import Derived.Test.YtddhaofdmkmbmaaSame
import Derived.Test.YtddhaofdmkmbmaaHashM
namespace Go.Proofs.Ytddhaofdmkmbmaa
open Go.RowKit

theorem Try.infoU : (Try.prog.info? 25).map (fun i => (i.zero, i.size, i.bytes)) = some (some (.int .u64 0), 1, 8) := by kernel_rfl
theorem Try.elU : Elem Try.prog 40 25 (.int .u64 0) 1 8 := ⟨Try.underlying40, Try.infoU, rfl, by decide, by decide⟩

theorem wrap_toNat (x : BitVec 64) : IntKind.u64.wrap (x.toNat : Int) = x.toNat := by
  rw [IntKind.wrap_u64]; have := x.isLt; omega
theorem xor_toNat (a b : Int) : bits BinOp.xor IntKind.u64 a b = ((BitVec.ofInt 64 a ^^^ BitVec.ofInt 64 b).toNat : Int) := wrap_toNat _
theorem mul_toNat (x : BitVec 64) : IntKind.u64.wrap ((x.toNat : Int) * 11400714819323198485) = ((x * mulB).toNat : Int) := by
  rw [IntKind.wrap_u64, BitVec.toNat_mul]
  show _ = (((_ : Nat) * 11400714819323198485 % 18446744073709551616 : Nat) : Int)
  omega
theorem shift_toNat (x : BitVec 64) : (x.toNat : Int) / (4294967296 : Int) = ((x >>> 32).toNat : Int) := by
  rw [BitVec.toNat_ushiftRight, Nat.shiftRight_eq_div_pow]; rfl
theorem mix_spell (a b : Int) : bits BinOp.xor IntKind.u64 (IntKind.u64.wrap (bits BinOp.xor IntKind.u64 a b * 11400714819323198485))
    (IntKind.u64.wrap (bits BinOp.xor IntKind.u64 a b * 11400714819323198485) / 4294967296) = mixI a b := by
  rw [xor_toNat a b, mul_toNat, shift_toNat, xor_toNat, ofInt_toNat, ofInt_toNat]
  rfl
theorem mix_spell' (a b : Int) : bits BinOp.xor IntKind.u64 (IntKind.u64.wrap (bits BinOp.xor IntKind.u64 a b * 11400714819323198485))
    (IntKind.u64.wrap ((IntKind.u64.wrap (bits BinOp.xor IntKind.u64 a b * 11400714819323198485)).tdiv 4294967296)) = mixI a b := by
  rw [← mix_spell a b, xor_toNat a b, mul_toNat, Int.tdiv_eq_ediv_of_nonneg (by omega), shift_toNat, wrap_toNat]

theorem rmix_any (a b : Int) (w : World) :
    Calls Try.prog 27 #[.int .u64 a, .int .u64 b] w fun e w' => e = .returned (.int .u64 (mixI a b)) ∧ w = w' := by
  go_enter Try.func27, Try.ntmps27
  go_wp2
  go_ret
  exact ⟨ret_val (congrArg (Value.int .u64) (mix_spell' a b)), rfl⟩

theorem hmix_any (a b : Int) (w : World) :
    Calls Try.prog 26 #[.int .u64 a, .int .u64 b] w fun e w' => e = .returned (.int .u64 (mixI a b)) ∧ w = w' := by
  go_enter Try.func26, Try.ntmps26
  go_wp2
  go_ret
  exact ⟨ret_val (congrArg (Value.int .u64) (mix_spell a b)), rfl⟩

theorem leN_lt (l : List UInt8) : leN l < 256 ^ l.length := by
  induction l with
  | nil => simp [leN]
  | cons b l ih =>
    have := b.toNat_lt
    simp only [leN, List.length_cons, Nat.pow_succ]
    omega

theorem leN_step {bs : List UInt8} {hi k : Nat} {b : UInt8} (hk : k < hi) (hb : bs[k]? = some b) : leN ((bs.take hi).drop k) = b.toNat + 256 * leN ((bs.take hi).drop (k + 1)) := by
  have h : (bs.take hi)[k]? = some b := by rw [List.getElem?_take]; simp [hk, hb]
  obtain ⟨hlt, hget⟩ := List.getElem?_eq_some_iff.1 h
  rw [List.drop_eq_getElem_cons hlt, hget]
  rfl

theorem leN_small {bs : List UInt8} {hi k : Nat} (h : hi ≤ k + 8) : leN ((bs.take hi).drop k) < 18446744073709551616 := by
  have h1 := leN_lt ((bs.take hi).drop k)
  have h2 : ((bs.take hi).drop k).length ≤ 8 := by simp; omega
  exact Nat.lt_of_lt_of_le h1 (Nat.pow_le_pow_right (by omega) h2)

theorem wordAt_take (bs : List UInt8) (i : Nat) : leN ((bs.take (min (8 * i + 8) bs.length)).drop (8 * i)) = leN ((bs.drop (8 * i)).take 8) := by
  congr 1
  rw [List.drop_take]
  by_cases h : 8 * i + 8 ≤ bs.length
  · rw [Nat.min_eq_left h]; congr 1; omega
  · rw [Nat.min_eq_right (by omega), List.take_of_length_le (by simp), List.take_of_length_le (by simp; omega)]

theorem wordAt_val (bs : List UInt8) (i : Nat) : (((wordAt bs i).toNat : Nat) : Int) = (leN ((bs.take (min (8 * i + 8) bs.length)).drop (8 * i)) : Int) := by
  rw [wordAt_take, wordAt, BitVec.toNat_ofNat, ← wordAt_take, Nat.mod_eq_of_lt (leN_small (by omega))]

set_option maxHeartbeats 1000000 in
theorem words_any (v : Value) (bs : List UInt8) (w : World) (hv : Rv w v bs.length (bs.map vB)) (hbs : bs.length ≤ 1099511627776) :
    Calls Try.prog 23 #[v] w (RetMade w 25 ((words bs).map vU)) := by
  obtain ⟨ao, cap, rfl, hc, _, _, hrd⟩ := hv
  go_enter Try.func23, Try.ntmps23
  go_wp2
  go_loopw [3, 4] (fun out i wr => ∃ k : Nat, k ≤ nWords bs ∧ i = .int .i64 (8 * k : Nat) ∧ wr.ownsRow w.heap.size 25 1 out k ((wordsTo bs k).map vU) ∧ Below w.heap.size w wr) (fun _ i _ => bs.length + 8 - (intOf i).toNat)
  case atStart => exact ⟨0, Nat.zero_le _, rfl, World.ownsRow_nil _ _ _ _, Below.refl _ _⟩
  case round =>
    obtain ⟨k, hk, rfl, hown, hB⟩ := hrel
    obtain ⟨wo, rfl⟩ : ∃ wo : World, wo = wr := ⟨_, rfl⟩
    have hrd' := hrd.below hB
    have hnw : nWords bs * 8 < bs.length + 8 := by unfold nWords; omega
    have hnw' : bs.length ≤ nWords bs * 8 := by unfold nWords; omega
    by_cases hlt : 8 * k < bs.length
    · obtain ⟨hi, hhi⟩ : ∃ hi, hi = min (8 * k + 8) bs.length := ⟨_, rfl⟩
      have hi1 : hi ≤ 8 * k + 8 := by omega
      have hi2 : hi ≤ bs.length := by omega
      have hi3 : 8 * k < hi := by omega
      have hi4 : ¬ bs.length < 8 * k + 8 → 8 * k + 8 ≤ hi := by omega
      have hi5 : bs.length < 8 * k + 8 → bs.length ≤ hi := by omega
      have HH := Lib.hid hhi
      have HO := Lib.hid hown
      clear hhi hown
      by_cases h8 : bs.length < 8 * k + 8
      all_goals
        have h9 := hi4
        have h10 := hi5
        clear hi4 hi5
        simp only [h8, not_true_eq_false, not_false_eq_true, forall_const, false_implies] at h9 h10
        go_wp2
        go_loop [5, 6] (fun wv kv => ∃ j : Nat, 8 * k ≤ j ∧ j ≤ hi ∧ kv = .int .i64 ((j : Int) - 1) ∧ wv = .int .u64 (leN ((bs.take hi).drop j) : Nat)) (fun _ kv => (intOf kv + 1).toNat)
        case atStart => exact ⟨hi, by omega, Nat.le_refl _, by go_num, by rw [List.drop_of_length_le (by simp; omega)]; rfl⟩
        case round =>
          obtain ⟨j, hj1, hj2, rfl, rfl⟩ := hrel
          have hsm := leN_small (bs := bs) (hi := hi) (k := j) (by omega)
          by_cases hj : 8 * k < j
          · obtain ⟨b, hb⟩ := getE (xs := bs) (k := j - 1) (by omega)
            have hst := leN_step (bs := bs) (hi := hi) (k := j - 1) (by omega) hb
            have hsm' := leN_small (bs := bs) (hi := hi) (k := j - 1) (by omega)
            rw [show j - 1 + 1 = j from by omega] at hst
            obtain ⟨bk, off, rfl, hcx⟩ := hrd'.cell (i := j - 1) (u := vB b) (by simp [hb])
            simp only [vB] at hcx
            have HS := Lib.hid hst
            have hlt' : b.toNat + 256 * leN ((bs.take hi).drop j) < 18446744073709551616 := by omega
            clear hst hb
            obtain ⟨q, hq⟩ : ∃ q, q = leN ((bs.take hi).drop j) := ⟨_, rfl⟩
            rw [← hq] at hlt' hsm ⊢
            go_wp2
            go_round
            case rel => exact ⟨j - 1, by omega, by omega, by go_num, by rw [HS.out]; go_num⟩
            case measure => simp [intOf]; omega
          · obtain rfl : j = 8 * k := by omega
            have hsz := hB.size
            go_wp2_with (at_builtin; refine wpList_app _ rfl _ _ rfl Try.elU w.heap.size _ k _ rfl (HO.out.alloc _) _ 1 [_] rfl (Rv.one _ _ _) rfl (map_oneCell (fun _ : Unit => Value.int .u64 (leN ((bs.take hi).drop (8 * k)) : Nat)) (fun _ => rfl) [()]) (by omega) (by simp; omega) ?_; intro v' w' hown hg _)
            have hg' := hown
            go_roundw
            case rel =>
              refine ⟨k + 1, by omega, by go_num, ?_, (hB.alloc hB.size _).grown hg (by simp; omega) ?_⟩
              · rw [wordsTo_succ, List.map_append]
                have hv : Value.int .u64 (leN ((bs.take hi).drop (8 * k)) : Nat) = vU (wordAt bs k) := by rw [vU, wordAt_val, HH.out]
                rw [hv] at hg'
                exact hg'
              · exact fun b hb => (HO.out.lt b hb).1
            case measure => simp [intOf]; omega
    · go_wp2
      go_ret
      obtain rfl : k = nWords bs := by omega
      exact retMade hown rfl hB
end Go.Proofs.Ytddhaofdmkmbmaa
