/- Package text: symbolsOf's iterator (under way). -/
import Derived.Test.YtmofakcpldbbmaaDoorTxtL
import Derived.Test.YtmofakcpldbbmaaDoorTxtO
import Derived.Test.YtmofakcpldbbmaaDoorLibIn
import Derived.Test.YtmofakcpldbbmaaDoorHash
namespace Go.Proofs.YtmofakcpldbbmaaDoor
open Go.RowKit Go.Shelf

attribute [local go_sem] Oper.semAt_some

/-- The next symbol and the bytes that it takes (none: no encoding begins). -/
def nextM (runes : Bool) (b : List UInt8) : Int × Int := if runes then firstM b else (((b.headD 0).toNat : Int), 1)
/-- What the sequence yields, for as many steps. -/
def symsM (runes : Bool) : Nat → List UInt8 → List Int
  | 0, _ => []
  | _ + 1, [] => []
  | f + 1, c :: cs => if (nextM runes (c :: cs)).2 = 0 then [-1] else (nextM runes (c :: cs)).1 :: symsM runes f ((c :: cs).drop (nextM runes (c :: cs)).2.toNat)

theorem formM_len (least greatest lead more x : Nat) (b : List UInt8) : (formM least greatest lead more x b).2 = 0 ∨ ((formM least greatest lead more x b).2 = ((1 + more : Nat) : Int) ∧ more < b.length) := by
  unfold formM
  by_cases h : b.length ≤ more
  · rw [if_pos h]; exact .inl rfl
  · rw [if_neg h]
    simp only
    split
    · split
      · exact .inl rfl
      · exact .inr ⟨rfl, by omega⟩
    · exact .inl rfl
theorem firstM_len (b : List UInt8) (hb : 0 < b.length) : (firstM b).2 = 0 ∨ (1 ≤ (firstM b).2 ∧ (firstM b).2 ≤ (b.length : Int)) := by
  unfold firstM
  simp only
  split
  · exact .inr ⟨by simp, by simp; omega⟩
  split
  · rcases formM_len 128 2047 192 1 (b.headD 0).toNat b with h | ⟨h, h'⟩
    · exact .inl h
    · exact .inr ⟨by rw [h]; omega, by rw [h]; omega⟩
  split
  · rcases formM_len 2048 65535 224 2 (b.headD 0).toNat b with h | ⟨h, h'⟩
    · exact .inl h
    · exact .inr ⟨by rw [h]; omega, by rw [h]; omega⟩
  split
  · rcases formM_len 65536 1114111 240 3 (b.headD 0).toNat b with h | ⟨h, h'⟩
    · exact .inl h
    · exact .inr ⟨by rw [h]; omega, by rw [h]; omega⟩
  · exact .inl rfl

theorem symbolsOf_in (a : Option Addr) (len cap : Nat) (runes : Bool) (n : Nat) (w : World) :
    CallsIn Fence.wide n Tryd.prog 24 #[.slice a len cap, .bool runes] w fun e w' => e = .returned (.func (.func 31) #[] #[.pointer (some ⟨w.heap.size, 0, none⟩), .pointer (some ⟨w.heap.size + 1, 0, none⟩)]) ∧ w' = (w.alloc (.cells #[.slice a len cap] 28)).alloc (.cells #[.bool runes] 4) := by
  refine callsIn_of_wp Tryd.func24 rfl trivial ?_ rfl
  simp only [Tryd.ntmps24, List.size_toArray, List.length_cons, List.length_nil, Nat.reduceAdd, Nat.reduceSub, Array.replicate_succ, Array.replicate_zero, List.push_toArray, List.append_toArray, List.nil_append, List.cons_append]
  gi_wp2
  go_ret
  exact ⟨rfl, rfl⟩

set_option maxRecDepth 100000 in
set_option maxHeartbeats 4000000 in
theorem symbolsOf1_in (X : Nat → Prop) (n : Nat) (hn : 1 ≤ n) (l Bs Br B cap : Nat) (ao : Option Addr) (bs : List UInt8) (runes : Bool) (hlen : bs.length ≤ 1099511627776) (J Jx : List Int → World → Prop) (W : World)
    (hJ : ∀ pre A C, J pre A → Below A.heap.size A C → J pre C)
    (hY : ∀ pre x W1, J pre W1 → pre.length < bs.length → YieldAt Fence.wide (n - 1) Tryd.prog l #[.int .i64 x] W1 fun e W' =>
      (e = .returned (.bool true) ∧ J (pre ++ [x]) W' ∧ KeepX X B W1 W') ∨ (e = .returned (.bool false) ∧ Jx (pre ++ [x]) W'))
    (hBs : W.cell? ⟨Bs, 0, none⟩ = some (.slice ao bs.length cap)) (hBB : Bs < B) (hBX : ¬ X Bs) (hBr : W.cell? ⟨Br, 0, none⟩ = some (.bool runes)) (hRB : Br < B) (hRX : ¬ X Br) (hF : FM W) (hF0 : ¬ X 0) (hBW : B ≤ W.heap.size) (hB0 : 0 < B) (hc : bs.length ≤ cap) (hcm : cap ≤ maxLen) (hrd : Rd W ao (bs.map vB))
    (hb : ∀ b off, ao = some ⟨b, off, none⟩ → 0 < bs.length → b < B ∧ ¬ X b) (h0 : J [] W) :
    CallsIn Fence.wide n Tryd.prog 31 #[.func (.yield l) #[] #[], .pointer (some ⟨Bs, 0, none⟩), .pointer (some ⟨Br, 0, none⟩)] W fun e W' => (∃ v, e = .returned v) ∧
      ((∃ ys, ys = symsM runes bs.length bs ∧ J ys W') ∨ (∃ pre, (∃ k, k ≤ bs.length ∧ pre = (symsM runes bs.length bs).take k) ∧ Jx pre W')) := by
  refine callsIn_of_wp Tryd.func31 rfl trivial ?_ rfl
  simp only [Tryd.ntmps31, List.size_toArray, List.length_cons, List.length_nil, Nat.reduceAdd, Nat.reduceSub, Array.replicate_succ, Array.replicate_zero, List.push_toArray, List.append_toArray, List.nil_append, List.cons_append]
  gi_wp2
  gi_loopw [4] (fun iv wr => ∃ (k f : Nat) (pre : List Int), iv = .int .i64 (k : Int) ∧ k ≤ bs.length ∧ bs.length ≤ f + k ∧ pre.length + f ≤ bs.length ∧ Hid (symsM runes bs.length bs = pre ++ symsM runes f (bs.drop k)) ∧ J pre wr ∧ KeepX X B W wr) (fun iv _ => bs.length + 1 - (intOf iv).toNat)
  case atStart => exact ⟨0, bs.length, [], rfl, Nat.zero_le _, by omega, by simp, rfl, h0, KeepX.refl _ _ _⟩
  case round =>
    obtain ⟨k, f, pre, rfl, hk, hkf, hpf, HS, hJp, hK⟩ := hrel
    have hBs1 := (hK.cell (p := ⟨Bs, 0, none⟩) hBB hBX).trans hBs
    have hBr1 := (hK.cell (p := ⟨Br, 0, none⟩) hRB hRX).trans hBr
    by_cases hlt : k < bs.length
    · obtain ⟨g, off, rfl, hc0⟩ := hrd.cell (i := k) (u := vB bs[k]) (by simp [hlt])
      obtain ⟨hg1, hg2⟩ := hb g off rfl (by omega)
      have hcx := (hK.cell (p := ⟨g, off + k, none⟩) hg1 hg2).trans hc0
      have hdr : bs.drop k = bs[k] :: bs.drop (k + 1) := List.drop_eq_getElem_cons hlt
      unfold vB at hcx
      obtain ⟨f', rfl⟩ : ∃ f', f = f' + 1 := ⟨f - 1, by omega⟩
      have hne : bs.drop k ≠ [] := fun h => by have := congrArg List.length h; simp at this; omega
      have hst : symsM runes (f' + 1) (bs.drop k) = if (nextM runes (bs.drop k)).2 = 0 then [-1] else (nextM runes (bs.drop k)).1 :: symsM runes f' (bs.drop (k + (nextM runes (bs.drop k)).2.toNat)) := by
        rw [hdr, symsM, ← hdr, List.drop_drop]
      have hkc : ¬ cap = k := by omega
      have hki : (k : Int) < (bs.length : Int) := by omega
      have hkj : (k : Int) ≤ (cap : Int) := by omega
      cases runes
      · have hnx : nextM false (bs.drop k) = ((bs[k].toNat : Int), 1) := by unfold nextM; rw [hdr]; rfl
        rw [hnx] at hst
        rw [if_neg (show ¬ (1 : Int) = 0 by decide)] at hst
        have HS2 : Hid (symsM false bs.length bs = (pre ++ [(bs[k].toNat : Int)]) ++ symsM false f' (bs.drop (k + 1))) := by
          show _ = _
          rw [HS.out, hst, List.append_assoc]
          rfl
        generalize bs[k] = c at *
        clear hnx hst hdr hne HS
        have hc255 := c.toNat_lt
        obtain ⟨fn, tmps, assign, bdy, hy, hR⟩ := hY pre (c.toNat : Int) wr hJp (by omega)
        gi_wp2
        refine hR.mono ?_
        rintro e W3 (⟨rfl, hJ3, hk3⟩ | ⟨rfl, hJx3⟩)
        · gi_wp2
          go_roundw
          case rel => exact ⟨k + 1, f', pre ++ [(c.toNat : Int)], by go_num, by omega, by omega, by simp; omega, HS2, hJ3, hK.trans hk3⟩
          case measure => simp [intOf]; omega
        · gi_wp2
          refine bodyPost_ret (results_none rfl _ _ _) rfl ?_
          exact ⟨⟨_, rfl⟩, .inr ⟨_, ⟨pre.length + 1, by omega, by rw [HS2.out, List.take_append_of_le_length (by simp), List.take_of_length_le (by simp)]⟩, hJx3⟩⟩
      · have hcl := firstM_len (bs.drop k) (List.length_pos_iff.2 hne)
        have hnx : nextM true (bs.drop k) = firstM (bs.drop k) := rfl
        rw [hnx] at hst
        have hfr := fun (w1 : World) (h1 : Rv w1 (.slice (some ⟨g, off + k, none⟩) (bs.length - k) (cap - k)) (bs.drop k).length ((bs.drop k).map vB)) (h2 : FM w1) => first_any _ (bs.drop k) w1 h1 (List.length_pos_iff.2 hne) (by rw [List.length_drop]; omega) h2
        have hld : (bs.drop k).length = bs.length - k := List.length_drop
        rw [hld] at hcl
        generalize firstM (bs.drop k) = r at *
        have hc255 := bs[k].toNat_lt
        generalize bs[k] = c at *
        obtain ⟨r1, r2⟩ := r
        simp only at hst hcl
        have hrv : Rv wr (.slice (some ⟨g, off + k, none⟩) (bs.length - k) (cap - k)) (bs.drop k).length ((bs.drop k).map vB) := by
          rw [hld]
          refine ⟨_, _, rfl, by omega, by omega, (fun h => by cases h), .inr ⟨_, _, rfl, fun i u hi => ?_⟩⟩
          rw [List.map_drop, List.getElem?_drop] at hi
          rcases hrd with hrd | ⟨g', off', he, hrd⟩
          · rw [hrd] at hi; simp at hi
          · cases he
            rw [Nat.add_assoc]
            exact (hK.cell (p := ⟨g, off + (k + i), none⟩) hg1 hg2).trans (hrd (k + i) u hi)
        have hfm : FM wr := fun j hj => (hK.cell (p := ⟨0, j, none⟩) hB0 hF0).trans (hF j hj)
        have HF1 := Lib.hid (hfr wr hrv hfm)
        have hKB : ∀ w5, Below wr.heap.size wr w5 → KeepX X B W w5 := fun w5 h5 q hq hx => by
          have h1 := hK q hq hx
          have hlt5 : q < wr.heap.size := by
            rcases Nat.lt_or_ge q wr.heap.size with h | h
            · exact h
            · rw [Array.getElem?_eq_none h, Array.getElem?_eq_getElem (by omega)] at h1; cases h1
          exact (h5.block q hlt5).trans h1
        clear hfr hrv hfm hrd hc0
        by_cases hr0 : r2 = 0
        · subst hr0
          rw [if_pos rfl] at hst
          have HS2 : Hid (symsM true bs.length bs = pre ++ [-1]) := by show _ = _; rw [HS.out, hst]
          clear hst HS hcl hdr hne
          gi_wp2_with (refine ⟨trivial, ?_⟩; gi_at_call 32; refine (callsIn_wide.2 HF1.out).mono ?_; rintro e w5 ⟨rfl, B5⟩; obtain ⟨fn, tmps, assign, bdy, hy, hR⟩ := hY pre (-1) w5 (hJ pre wr w5 hJp B5) (by omega))
          refine hR.mono ?_
          rintro e W3 (⟨rfl, hJ3, hk3⟩ | ⟨rfl, hJx3⟩)
          · gi_wp2
            refine bodyPost_ret (results_none rfl _ _ _) rfl ?_
            exact ⟨⟨_, rfl⟩, .inl ⟨_, rfl, by rw [HS2.out]; exact hJ3⟩⟩
          · gi_wp2
            refine bodyPost_ret (results_none rfl _ _ _) rfl ?_
            exact ⟨⟨_, rfl⟩, .inr ⟨_, ⟨pre.length + 1, by omega, by rw [HS2.out, List.take_of_length_le (by simp)]⟩, hJx3⟩⟩
        · rw [if_neg hr0] at hst
          obtain ⟨m, hm⟩ : ∃ m : Nat, r2 = (m : Int) := ⟨r2.toNat, by omega⟩
          subst hm
          have hm1 : 1 ≤ m := by omega
          have hm2 : k + m ≤ bs.length := by omega
          rw [Int.toNat_natCast] at hst
          have HS2 : Hid (symsM true bs.length bs = (pre ++ [r1]) ++ symsM true f' (bs.drop (k + m))) := by
            show _ = _
            rw [HS.out, hst, List.append_assoc]
            rfl
          have hq1 : ((m : Int) == 0) = false := beq_eq_false_iff_ne.2 hr0
          clear hst HS hcl hdr hne hr0
          gi_wp2_with (refine ⟨trivial, ?_⟩; gi_at_call 32; refine (callsIn_wide.2 HF1.out).mono ?_; rintro e w5 ⟨rfl, B5⟩; obtain ⟨fn, tmps, assign, bdy, hy, hR⟩ := hY pre r1 w5 (hJ pre wr w5 hJp B5) (by omega))
          refine hR.mono ?_
          rintro e W3 (⟨rfl, hJ3, hk3⟩ | ⟨rfl, hJx3⟩)
          · gi_wp2
            go_roundw
            case rel => exact ⟨k + m, f', pre ++ [r1], by go_num, by omega, by omega, by simp; omega, HS2, hJ3, (hKB w5 B5).trans hk3⟩
            case measure => simp [intOf]; omega
          · gi_wp2
            refine bodyPost_ret (results_none rfl _ _ _) rfl ?_
            exact ⟨⟨_, rfl⟩, .inr ⟨_, ⟨pre.length + 1, by omega, by rw [HS2.out, List.take_append_of_le_length (by simp), List.take_of_length_le (by simp)]⟩, hJx3⟩⟩
    · obtain rfl : k = bs.length := by omega
      rw [List.drop_length] at HS
      have hs : symsM runes bs.length bs = pre := by
        rw [HS.out]
        cases f <;> simp [symsM]
      gi_wp2
      go_end0
      exact ⟨⟨_, rfl⟩, .inl ⟨_, rfl, hs ▸ hJp⟩⟩
end Go.Proofs.YtmofakcpldbbmaaDoor
