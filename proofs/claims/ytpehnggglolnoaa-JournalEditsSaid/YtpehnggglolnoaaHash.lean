/- Contracts of package hash: wordsOf, Sum, Bytes, Pair. -/
import Derived.Test.YtpehnggglolnoaaLibIn
import Derived.Test.YtpehnggglolnoaaHashC
namespace Go.Proofs.Ytpehnggglolnoaa
open Go.RowKit Go.Shelf

attribute [local go_sem] Oper.semAt_some

theorem wordsOf_in (a : Option Addr) (len cap : Nat) (n : Nat) (w : World) :
    CallsIn Fence.wide n Try.prog 73 #[.slice a len cap] w fun e w' => e = .returned (.func (.func 93) #[] #[.pointer (some ⟨w.heap.size, 0, none⟩)]) ∧ w' = w.alloc (.cells #[.slice a len cap] 49) := by
  refine callsIn_of_wp Try.func73 rfl trivial ?_ rfl
  simp only [Try.ntmps73, List.size_toArray, List.length_cons, List.length_nil, Nat.reduceAdd, Nat.reduceSub, Array.replicate_succ, Array.replicate_zero, List.push_toArray, List.append_toArray, List.nil_append, List.cons_append]
  gi_wp2
  go_ret
  exact ⟨rfl, rfl⟩

theorem leN_take_succ {l : List UInt8} {j : Nat} {x : UInt8} (h : l[j]? = some x) : leN (l.take (j + 1)) = leN (l.take j) + 256 ^ j * x.toNat := by
  induction l generalizing j with
  | nil => simp at h
  | cons b l ih =>
    cases j with
    | zero =>
      simp only [List.getElem?_cons_zero, Option.some.injEq] at h
      subst h
      simp [leN]
    | succ j =>
      rw [List.getElem?_cons_succ] at h
      have := ih h
      rw [List.take_succ_cons, List.take_succ_cons, leN, leN, this, Nat.pow_succ, Nat.mul_add, Nat.add_assoc]
      congr 2
      rw [← Nat.mul_assoc, Nat.mul_comm 256]

theorem or_step {l : List UInt8} {j : Nat} {x : UInt8} (h : l[j]? = some x) (hj : j < 8) :
    bits BinOp.or IntKind.u64 (leN (l.take j) : Int) (IntKind.u64.wrap (IntKind.u64.wrap (x.toNat : Int) * 2 ^ (8 * j))) = (leN (l.take (j + 1)) : Int) := by
  have hx := x.toNat_lt
  have h1 : leN (l.take j) < 2 ^ (8 * j) := by
    have h2 := leN_lt (l.take j)
    have h3 : (256 : Nat) ^ (l.take j).length ≤ 256 ^ j := Nat.pow_le_pow_right (by omega) (by simp; omega)
    rw [show (256 : Nat) ^ j = 2 ^ (8 * j) from by rw [Nat.pow_mul]] at h3
    omega
  have h4 : x.toNat * 2 ^ (8 * j) < 18446744073709551616 := by
    have h5 : (2 : Nat) ^ (8 * j) ≤ 2 ^ 56 := Nat.pow_le_pow_right (by omega) (by omega)
    have h6 := Nat.mul_le_mul (Nat.le_of_lt_succ hx) h5
    exact Nat.lt_of_le_of_lt h6 (by decide)
  have e1 : IntKind.u64.wrap (x.toNat : Int) = (x.toNat : Int) := by rw [IntKind.wrap_u64]; omega
  have e2 : ((x.toNat : Int) * 2 ^ (8 * j)) = ((x.toNat * 2 ^ (8 * j) : Nat) : Int) := by simp
  have e3 : IntKind.u64.wrap ((x.toNat * 2 ^ (8 * j) : Nat) : Int) = ((x.toNat * 2 ^ (8 * j) : Nat) : Int) := by rw [IntKind.wrap_u64]; omega
  have h7 : leN (l.take j) < 18446744073709551616 := by
    have h5 : (2 : Nat) ^ (8 * j) ≤ 2 ^ 64 := Nat.pow_le_pow_right (by omega) (by omega)
    exact Nat.lt_of_lt_of_le h1 h5
  rw [e1, e2, e3, u64_or_nat _ _ h7 h4, Nat.or_comm, nat_join (8 * j) _ _ (by simp) h1, leN_take_succ h, Nat.add_comm, Nat.mul_comm x.toNat]
  rw [show (256 : Nat) ^ j = 2 ^ (8 * j) from by rw [Nat.pow_mul]]

/-- Below B, all blocks but those of X lie as they lay. -/
def KeepX (X : Nat → Prop) (B : Nat) (W W' : World) : Prop := ∀ k, k < B → ¬ X k → W'.heap[k]? = W.heap[k]?
theorem KeepX.refl (X : Nat → Prop) (B : Nat) (W : World) : KeepX X B W W := fun _ _ _ => rfl
theorem KeepX.trans {X : Nat → Prop} {B : Nat} {a b c : World} (h : KeepX X B a b) (h' : KeepX X B b c) : KeepX X B a c := fun k h1 h2 => (h' k h1 h2).trans (h k h1 h2)
theorem KeepX.cell {X : Nat → Prop} {B : Nat} {W W' : World} (h : KeepX X B W W') {p : Addr} (h1 : p.block < B) (h2 : ¬ X p.block) : W'.cell? p = W.cell? p := World.cell?_of_block (h _ h1 h2)
theorem keepX_b {X : Nat → Prop} {B : Nat} {w : World} (hB : B ≤ w.heap.size) (W : World) (l : Nat) (o o' : Obj) (hl : w.heap.size ≤ l) (_ : W.heap[l]? = some o) (_ : o.isCells = false) (_ : o.isWalk = false) : KeepX X B W (W.putObj l o') :=
  fun k hk _ => World.putObj_heap_other (by omega)

set_option maxRecDepth 100000 in
set_option maxHeartbeats 2000000 in
theorem wordsOf1_in (X : Nat → Prop) (n : Nat) (hn : 1 ≤ n) (l Bs B cap : Nat) (ao : Option Addr) (bs : List UInt8) (hlen : bs.length ≤ 1099511627776) (J Jx : List (BitVec 64) → World → Prop)
    (hY : ∀ pre x W, J pre W → pre.length < nWords bs → YieldAt Fence.wide (n - 1) Try.prog l #[.int .u64 (x.toNat : Int)] W fun e W' =>
      (e = .returned (.bool true) ∧ J (pre ++ [x]) W' ∧ KeepX X B W W') ∨ (e = .returned (.bool false) ∧ Jx (pre ++ [x]) W'))
    (W : World) (hBs : W.cell? ⟨Bs, 0, none⟩ = some (.slice ao bs.length cap)) (hBB : Bs < B) (hBX : ¬ X Bs) (hc : bs.length ≤ cap) (hrd : Rd W ao (bs.map vB))
    (hb : ∀ b off, ao = some ⟨b, off, none⟩ → 0 < bs.length → b < B ∧ ¬ X b) (h0 : J [] W) :
    CallsIn Fence.wide n Try.prog 93 #[.func (.yield l) #[] #[], .pointer (some ⟨Bs, 0, none⟩)] W fun e W' => (∃ v, e = .returned v) ∧
      ((∃ ys, ys = words bs ∧ J ys W') ∨ (∃ pre, (∃ k, k ≤ nWords bs ∧ pre = wordsTo bs k) ∧ Jx pre W')) := by
  refine callsIn_of_wp Try.func93 rfl trivial ?_ rfl
  simp only [Try.ntmps93, List.size_toArray, List.length_cons, List.length_nil, Nat.reduceAdd, Nat.reduceSub, Array.replicate_succ, Array.replicate_zero, List.push_toArray, List.append_toArray, List.nil_append, List.cons_append]
  gi_wp2
  gi_loopw [3] (fun i wr => ∃ k : Nat, k ≤ nWords bs ∧ i = .int .i64 (8 * k : Nat) ∧ J (wordsTo bs k) wr ∧ KeepX X B W wr)
    (fun i _ => bs.length + 8 - (intOf i).toNat)
  case atStart => exact ⟨0, Nat.zero_le _, rfl, h0, KeepX.refl _ _ _⟩
  case round =>
    obtain ⟨k, hk, rfl, hJs, hnx⟩ := hrel
    have hBr := (hnx.cell (p := ⟨Bs, 0, none⟩) hBB hBX).trans hBs
    have hnw : nWords bs * 8 < bs.length + 8 := by unfold nWords; omega
    have hnw' : bs.length ≤ nWords bs * 8 := by unfold nWords; omega
    by_cases hlt : 8 * k < bs.length
    · obtain ⟨x0, hx0⟩ := getE hlt
      obtain ⟨b, off, rfl, _⟩ := hrd.cell (i := 8 * k) (u := vB x0) (by simp [hx0])
      clear hx0
      have hb' := hb b off rfl (by omega)
      have hX1 := hb'.1
      have hX2 := hb'.2
      clear hb hb'
      by_cases h8 : bs.length < 8 * k + 8
      all_goals
        gi_wp2
        gi_loop [4, 22] (fun wv iv => ∃ j : Nat, j ≤ min 8 (bs.length - 8 * k) ∧ iv = .int .i64 j ∧ wv = .int .u64 (leN ((bs.drop (8 * k)).take j) : Nat)) (fun _ iv => 8 - (intOf iv).toNat)
        case atStart => exact ⟨0, Nat.zero_le _, rfl, by simp [leN]⟩
        case round =>
          obtain ⟨j, hj, rfl, rfl⟩ := hrel
          by_cases hj' : j < min 8 (bs.length - 8 * k)
          · obtain ⟨x, hx⟩ := getE (xs := bs) (k := 8 * k + j) (by omega)
            obtain ⟨b2, off2, he, hcx⟩ := hrd.cell (i := 8 * k + j) (u := vB x) (by simp [hx])
            cases he
            have hcx' := (hnx.cell (p := ⟨b, off + (8 * k + j), none⟩) hX1 hX2).trans hcx
            rw [← Nat.add_assoc] at hcx'
            simp only [vB] at hcx'
            have HX := Lib.hid hx
            clear hx hcx
            gi_wp2
            go_round
            case rel =>
              refine ⟨j + 1, by omega, by go_num, ?_⟩
              exact congrArg (Value.int .u64) (or_step (by rw [List.getElem?_drop]; exact HX.out) (by omega))
            case measure => simp [intOf]; omega
          · obtain ⟨fn, tmps, assign, body, hy, hR⟩ := hY _ (wordAt bs k) wr hJs (by rw [wordsTo_length]; omega)
            have hv : ((wordAt bs k).toNat : Int) = (leN ((bs.drop (8 * k)).take j) : Nat) := by
              rw [wordAt_val, wordAt_take]
              by_cases h : j = 8
              · rw [h]
              · rw [List.take_of_length_le (by simp; omega), List.take_of_length_le (by simp; omega)]
            rw [hv] at hy
            clear hv hY
            gi_wp2
            refine hR.mono ?_
            rintro e W3 (⟨rfl, hJ3, hk3⟩ | ⟨rfl, hJx3⟩)
            · gi_wp2
              go_roundw
              case rel => exact ⟨k + 1, by omega, by go_num, by rw [wordsTo_succ]; exact hJ3, hnx.trans hk3⟩
              case measure => simp [intOf]; omega
            · gi_wp2
              refine bodyPost_ret (results_none rfl _ _ _) rfl ?_
              exact ⟨⟨_, rfl⟩, .inr ⟨_, ⟨k + 1, by omega, (wordsTo_succ _ _).symm⟩, hJx3⟩⟩
    · obtain rfl : k = nWords bs := by omega
      gi_wp2
      go_end0
      exact ⟨⟨_, rfl⟩, .inl ⟨_, rfl, hJs⟩⟩

theorem wordsOf_stops (X : Nat → Prop) (B n : Nat) (hn : 1 ≤ n) (Bs m cap : Nat) (ao : Option Addr) (bs : List UInt8) (hm : m = bs.length) (hlen : bs.length ≤ 1099511627776) (w : World) (hBs : w.cell? ⟨Bs, 0, none⟩ = some (.slice ao m cap)) (hBB : Bs < B) (hBX : ¬ X Bs) (hc : bs.length ≤ cap) (hrd : Rd w ao (bs.map vB))
    (hb : ∀ b off, ao = some ⟨b, off, none⟩ → 0 < bs.length → b < B ∧ ¬ X b) :
    SeqStopsK Fence.wide n Try.prog 93 #[.pointer (some ⟨Bs, 0, none⟩)] (fun x : BitVec 64 => #[Value.int .u64 (x.toNat : Int)]) (KeepX X B) (fun ys => ys = words bs) (fun pre => ∃ k, k ≤ nWords bs ∧ pre = wordsTo bs k) (nWords bs) w :=
  fun l J Jx W hW _ _ hY h0 =>
    wordsOf1_in X n hn l Bs B cap ao bs hlen J Jx hY W ((hW.cell (p := ⟨Bs, 0, none⟩) (World.block_lt_of_cell? w _ hBs)).trans (hm ▸ hBs)) hBB hBX hc (hrd.below hW) hb h0

set_option maxRecDepth 100000 in
set_option maxHeartbeats 2000000 in
theorem hsum_any (s : ByteArray) (v : Value) (xs : List Int) (w : World) (hv : Rv w v xs.length (xs.map (Value.int .i64))) (hs : s.size ≤ 1099511627776) (hxs : xs.length ≤ 1099511627776) :
    Calls Try.prog 74 #[.string s, v] w (RetU w (sumI s.data.toList xs)) := by
  refine (callsIn_wide (n := 5)).1 ?_
  obtain ⟨ao, cap, rfl, hc, hrd⟩ := hv.opened
  have hl : s.data.toList.length = s.size := by simp
  have HL := Lib.hid hl
  clear hl
  refine callsIn_of_wp_marks Try.func74 rfl trivial ?_ rfl
  simp only [Try.ntmps74, List.size_toArray, List.length_cons, List.length_nil, Nat.reduceAdd, Nat.reduceSub, Array.replicate_succ, Array.replicate_zero, List.push_toArray, List.append_toArray, List.nil_append, List.cons_append]
  gi_wp2_with (first
    | (refine wpListIn_tobytes _ rfl _ rfl s rfl Try.underlying9 Try.underlying49 Try.underlying5 (by unfold maxLen; omega) ?_; intro v1 w1 hr1 hB1; obtain ⟨ao1, cap1, rfl, hc1, hrd1⟩ := hr1.opened)
    | (refine ⟨trivial, ?_⟩; gi_at_call 73; refine (wordsOf_in _ _ _ _ _).mono ?_; rintro e w' ⟨rfl, rfl⟩))
  have hz1 := hB1.size
  rw [World.size_alloc] at hz1
  have bS : Boxed w1 w.heap.size 74 (.int .u64 0) := (hB1.block _ (by simp)).trans (Boxed.new w 74 (.int .u64 0))
  have bN := Boxed.new w1 49 (.slice ao1 s.size cap1)
  have hB0 : Below w.heap.size w (w1.alloc (.cells #[.slice ao1 s.size cap1] 49)) := (((Below.refl _ w).alloc (Nat.le_refl _) _).trans (hB1.mono (by simp))).alloc (by omega) _
  obtain ⟨L, hL⟩ : ∃ L, L = s.data.toList := ⟨_, rfl⟩
  rw [← hL] at hrd1
  have HE := Lib.hid hL
  have hLs : s.size = L.length := by rw [HE.out]; exact HL.out.symm
  have HS := Lib.hid hLs
  have hcap : L.length ≤ cap1 := by rw [hL]; exact hc1
  clear hL hLs hr1 hc1
  have hLle : L.length ≤ 1099511627776 := by rw [← HS.out]; exact hs
  have hbX : ∀ b off, ao1 = some ⟨b, off, none⟩ → 0 < L.length → b < w1.heap.size + 1 ∧ ¬ b = w.heap.size := by
    rintro b off rfl h0
    obtain ⟨x, hx⟩ := getE h0
    obtain ⟨b2, off2, he, hcx⟩ := hrd1.cell (i := 0) (u := vB x) (by simp [hx])
    cases he
    refine ⟨by have := World.block_lt_of_cell? _ _ hcx; simp at this; omega, ?_⟩
    rintro rfl
    have h2 := bS
    unfold Boxed at h2
    simp only [World.cell?, h2] at hcx
    match off, hcx with
    | 0, hcx => simp [vB] at hcx
    | off + 1, hcx => simp at hcx
  refine wpIn_rangeFunc_ownG rfl (by omega) (gf := 93) (lb := #[.pointer (some ⟨w1.heap.size, 0, none⟩)]) rfl trivial (enters_of Try.func93 (by kernel_rfl) rfl)
    (wordsOf_stops (fun k => k = w.heap.size) (w1.heap.size + 1) (5 - 1) (by omega) w1.heap.size s.size cap1 ao1 L HS.out hLle _ bN.cell (by omega) (by omega) hcap (hrd1.below (((Below.refl _ w1).alloc (Nat.le_refl _) _))) hbX)
    (fun h k => h.trans k) (keepX_b (by simp)) (Below.refl _ _) (fun _ => rfl)
    (fun pre W => (W.cell? ⟨w.heap.size, 0, none⟩ = some (.int .u64 ((absorb 0#64 pre).toNat : Int)) ∧ W.frozen? ⟨w.heap.size, 0, none⟩ = false) ∧ Below w.heap.size w W)
    (fun _ _ _ => False)
    (OwnFrom.and (Own.from (fun s A B row hs hg hr => ⟨cell_kept hs.1 hg hr, (frozen_kept hs.1 hg hr).trans hs.2⟩) _) (ownFrom_below (Nat.le_refl _) (by simp; omega)))
    (fun _ _ _ _ _ hs _ _ => hs)
    ⟨⟨(bS.alloc _).cell, (bS.alloc _).frozen⟩, hB0⟩
    (fun x => { tmps := #[.string s, .slice ao xs.length cap, undef, undef, .int .u64 0, .pointer (some ⟨w.heap.size, 0, none⟩), .int .u64 (x.toNat : Int), undef, undef, .string s, .slice ao1 s.size cap1, .func (.func 93) #[] #[.pointer (some ⟨w1.heap.size, 0, none⟩)], .int .u64 (x.toNat : Int), undef, undef, undef, undef, undef, undef, undef, undef, undef, undef, undef, undef, undef, undef, undef, undef, undef, undef, undef, undef, undef, undef, undef, undef, undef, undef], defers := [] }) ?assign ?body ?done ?stop
  case assign =>
    intro l x W K hK
    gi_wp2
    exact hK
  case body =>
    rintro l pre x W ⟨⟨hc, hf⟩, hB⟩ _
    gi_wp2_with (refine ⟨trivial, ?_⟩; gi_at_call 94; refine (CallsIn.inRound l (callsIn_wide.2 (hmix_any _ _ _))).mono ?_; rintro e w' ⟨rfl, rfl⟩)
    exact ⟨(KeepsOthers.setCell _ _ _).from _, fun k _ hX => Below.heap_setCell _ _ _ _ hX, ⟨by rw [absorb_snoc, mixI_toNat]; exact World.cell?_setCell_same' _ _ _ (by rw [hc]; rfl), by rw [World.frozen?_setCell]; exact hf⟩, hB.setCell (p := ⟨w.heap.size, 0, none⟩) (Nat.le_refl _) _⟩
  case done =>
    rintro D ys W hD rfl ⟨⟨hc, hf⟩, hB⟩ hK
    gi_wp2_with (refine ⟨trivial, ?_⟩; gi_at_call 94; refine (callsIn_wide.2 (hmix_any _ _ _)).mono ?_; rintro e w' ⟨rfl, rfl⟩)
    have hsz := hB.size
    have hrdx := hrd.below hB
    have hlenL : s.size = L.length := HS.out
    have hv1 := headB_val L s.size xs.length hlenL
    have hv2 : (absorb 0#64 (words L)) = (absorb 0#64 (wordsTo L (nWords L))) := rfl
    gi_loopw [28] (fun iv wr => ∃ k : Nat, k ≤ xs.length ∧ iv = .int .i64 k ∧ (wr.cell? ⟨w.heap.size, 0, none⟩ = some (.int .u64 ((absorb (headB L xs.length) ((xs.map (BitVec.ofInt 64)).take k)).toNat : Int)) ∧ wr.frozen? ⟨w.heap.size, 0, none⟩ = false) ∧ Below w.heap.size w wr ∧ wr.heap[D]? = some (.deferred (some [])))
      (fun iv _ => xs.length - (intOf iv).toNat)
    case atStart =>
      refine ⟨0, Nat.zero_le _, rfl, ⟨?_, by rw [World.frozen?_setCell, World.frozen?_setCell]; exact hf⟩, (hB.setCell (p := ⟨w.heap.size, 0, none⟩) (Nat.le_refl _) _).setCell (p := ⟨w.heap.size, 0, none⟩) (Nat.le_refl _) _, ?_⟩
      · rw [hv2, hv1]; exact World.cell?_setCell_same' _ _ _ (by rw [World.cell?_setCell_same' _ _ _ (by rw [hc]; rfl)]; rfl)
      · simp at hD
        rw [Below.heap_setCell _ _ _ _ (by simp; omega), Below.heap_setCell _ _ _ _ (by simp; omega)]; exact hK
    case round =>
      obtain ⟨k, hk, rfl, ⟨hcs, hfs⟩, hBr, hDr⟩ := hrel
      clear hc hf hB hK hrdx hv1 hv2 hlenL
      by_cases hlt : k < xs.length
      · obtain ⟨x, hx⟩ := getE hlt
        obtain ⟨b3, off3, rfl, hcx⟩ := (hrd.below hBr).cell (i := k) (u := .int .i64 x) (by simp [hx])
        have HX := Lib.hid hx
        clear hx
        gi_wp2_with (refine ⟨trivial, ?_⟩; gi_at_call 94; refine (callsIn_wide.2 (hmix_any _ _ _)).mono ?_; rintro e w' ⟨rfl, rfl⟩)
        go_roundw
        case rel =>
          refine ⟨k + 1, by omega, by go_num, ⟨?_, by rw [World.frozen?_setCell]; exact hfs⟩, hBr.setCell (p := ⟨w.heap.size, 0, none⟩) (Nat.le_refl _) _, ?_⟩
          · rw [absorb_take _ HX.out, mixI_wrap, mixI_left]; exact World.cell?_setCell_same' _ _ _ (by rw [hcs]; rfl)
          · rw [Below.heap_setCell _ _ _ _ (by simp at hD; simp; omega)]; exact hDr
        case measure => simp [intOf]; omega
      · obtain rfl : k = xs.length := by omega
        gi_wp2_with (refine ⟨trivial, ?_⟩; gi_at_call 94; refine (callsIn_wide.2 (hmix_any _ _ _)).mono ?_; rintro e w' ⟨rfl, rfl⟩)
        refine ⟨by simp, .inl ⟨_, _, rfl, run_takeDeferred hDr, ?_⟩⟩
        refine ⟨_, results_tmp rfl _ _ _, ret_val ?_, hBr.trans (belowK_b (w := w) (Nat.le_refl _) wr D _ _ (by simp at hD; omega) hDr rfl rfl)⟩
        show Value.int .u64 _ = _
        rw [List.take_of_length_le (by simp), sumI_val, HE.out]
  case stop =>
    rintro D c pre W _ _ h _
    exact h.elim

set_option maxRecDepth 100000 in
set_option maxHeartbeats 2000000 in
theorem hbytes_any (s : ByteArray) (v : Value) (bs : List UInt8) (w : World) (hv : Rv w v bs.length (bs.map vB)) (hs : s.size ≤ 1099511627776) (hbs : bs.length ≤ 1099511627776) :
    Calls Try.prog 40 #[.string s, v] w (RetU w (bytesB s.data.toList bs)) := by
  refine (callsIn_wide (n := 5)).1 ?_
  obtain ⟨ao, cap, rfl, hc, hrd⟩ := hv.opened
  obtain ⟨i0, hi, hz0, hz1, hz2⟩ := info_parts Try.infoI
  have hnb : nWords bs ≤ 200000000000 := by unfold nWords; omega
  refine callsIn_of_wp_marks Try.func40 rfl trivial ?_ rfl
  simp only [Try.ntmps40, List.size_toArray, List.length_cons, List.length_nil, Nat.reduceAdd, Nat.reduceSub, Array.replicate_succ, Array.replicate_zero, List.push_toArray, List.append_toArray, List.nil_append, List.cons_append]
  gi_wp2_with (first
    | (gi_at_make; refine wpListIn_make_own _ rfl _ _ 22 rfl w.heap.size 3 i0 (.int .i64 0) 1 Try.underlying22 hi hz0 hz1 .i64 .i64 _ (bs.length / 8 + 2) rfl rfl (by omega) (by rw [hz2]; omega) (by unfold maxLen; omega) (Nat.le_refl _) ?_; intro w1 hown1 hg1)
    | (refine ⟨trivial, ?_⟩; gi_at_call 73; refine (wordsOf_in _ _ _ _ _).mono ?_; rintro e w' ⟨rfl, rfl⟩))
  have hz1 := hg1.size
  have hB1 : Below w.heap.size w w1 := (Below.refl _ w).grown hg1 (Nat.le_refl _) (fun k h => by cases h)
  have bO := Boxed.new w1 22 (.slice (some ⟨w.heap.size, 0, none⟩) 0 (bs.length / 8 + 2))
  have bN := Boxed.new (w1.alloc (.cells #[.slice (some ⟨w.heap.size, 0, none⟩) 0 (bs.length / 8 + 2)] 22)) 49 (.slice ao bs.length cap)
  rw [World.size_alloc] at bN
  have hB0 : Below w.heap.size w ((w1.alloc (.cells #[.slice (some ⟨w.heap.size, 0, none⟩) 0 (bs.length / 8 + 2)] 22)).alloc (.cells #[.slice ao bs.length cap] 49)) := (hB1.alloc hz1 _).alloc (by simp; omega) _
  have hbX : ∀ b off, ao = some ⟨b, off, none⟩ → 0 < bs.length → b < w1.heap.size + 2 ∧ ¬ (w.heap.size ≤ b ∧ b ≠ w1.heap.size + 1) := by
    rintro b off rfl h0
    obtain ⟨x, hx⟩ := getE h0
    obtain ⟨b2, off2, he, hcx⟩ := hrd.cell (i := 0) (u := vB x) (by simp [hx])
    cases he
    have := World.block_lt_of_cell? _ _ hcx
    simp at this
    omega
  refine wpIn_rangeFunc_ownG rfl (by omega) (gf := 93) (lb := #[.pointer (some ⟨w1.heap.size + 1, 0, none⟩)]) rfl trivial (enters_of Try.func93 (by kernel_rfl) rfl)
    (wordsOf_stops (fun k => w.heap.size ≤ k ∧ k ≠ w1.heap.size + 1) (w1.heap.size + 2) (5 - 1) (by omega) (w1.heap.size + 1) bs.length cap ao bs rfl hbs _ bN.cell (by omega) (by simp) hc (hrd.below hB0) hbX)
    (fun h k => h.trans k) (keepX_b (by simp)) (Below.refl _ _) (fun _ => rfl)
    (fun pre W => ((∃ v, Boxed W w1.heap.size 22 v ∧ W.ownsRow w.heap.size 3 1 v pre.length ((pre.map toI).map (Value.int .i64)) ∧ True) ∧ Boxed W (w1.heap.size + 1) 49 (.slice ao bs.length cap)) ∧ Below w.heap.size w W)
    (fun _ _ _ => False)
    (OwnFrom.and (OwnFrom.and (Own.from (holdsRow_own w.heap.size w1.heap.size 22 3 1 (fun pre : List (BitVec 64) => pre.length) (fun pre : List (BitVec 64) => (pre.map toI).map (Value.int .i64)) (fun _ _ => True)) _) (Own.from (boxed_own (β := List (BitVec 64)) (w1.heap.size + 1) 49 (fun _ => .slice ao bs.length cap)) _)) (ownFrom_below (Nat.le_refl _) (by simp; omega)))
    (fun _ _ _ _ _ hs _ _ => hs)
    ⟨⟨⟨_, bO.alloc _, (hown1.alloc _).alloc _, trivial⟩, bN⟩, hB0⟩
    (fun x => { tmps := #[.string s, .slice ao bs.length cap, undef, undef, .int .u64 0, .pointer (some ⟨w1.heap.size, 0, none⟩), .int .u64 (x.toNat : Int), .slice ao bs.length cap, .int .i64 (bs.length : Int), .int .i64 ((bs.length : Int) / 8), .int .i64 ((bs.length : Int) / 8 + 2), .slice (some ⟨w.heap.size, 0, none⟩) 0 (bs.length / 8 + 2), .slice ao bs.length cap, .func (.func 93) #[] #[.pointer (some ⟨w1.heap.size + 1, 0, none⟩)], .int .u64 (x.toNat : Int), undef, undef, undef, undef, undef, undef, undef, undef, undef, undef, undef, undef, undef], defers := [] }) ?assign ?body ?done ?stop
  case assign =>
    intro l x W K hK
    gi_wp2
    exact hK
  case body =>
    rintro l pre x W ⟨⟨⟨v, hv, hrow, _⟩, hN⟩, hB⟩ hlt
    have hcv := hv.cell
    have hsz := hB.size
    gi_wp2_with (gi_at_builtin; refine wpListIn_app _ rfl _ _ rfl Try.elI w.heap.size _ pre.length _ rfl (hrow.alloc _) _ 1 [_] rfl (Rv.one _ _ _) rfl (ones1 _ rfl) (by omega) (by simp; omega) ?_; intro v' w2 hown' hgrow _; obtain ⟨g', cap', rfl⟩ := ownsRow_succ hown'; obtain ⟨hv1, hv2, hr2, hk2, hb2⟩ := hv.appended (by decide) hrow hB.size hz1 hown' hgrow; have hc1 := hv1.cell; have hf1 := hv1.frozen)
    have hN1 := (hN.alloc (.cells #[.int .i64 (wrap64 (x.toNat : Int))] 3)).kept hgrow (hN.not_row (by decide) hrow)
    have hN2 : Boxed (w2.setCell ⟨w1.heap.size, 0, none⟩ (.slice (some ⟨g', 0, none⟩) (pre.length + 1) cap')) (w1.heap.size + 1) 49 (.slice ao bs.length cap) := (Below.heap_setCell _ _ _ _ (by simp)).trans hN1
    refine ⟨hk2.from _, fun k hk hX => ?_, ⟨⟨_, hv2, ?_, trivial⟩, hN2⟩, hB.trans hb2⟩
    · by_cases h : k < w.heap.size
      · exact hb2.block k h
      · obtain rfl : k = w1.heap.size + 1 := by omega
        exact hN2.trans hN.symm
    · simpa [toI] using hr2
  case done =>
    rintro D ys W hD rfl ⟨⟨⟨v, hv, hrow, _⟩, hN⟩, hB⟩ hK
    have hcv := hv.cell
    have hsz := hB.size
    simp only [World.size_alloc] at hD
    have hwl := words_length bs
    have HWL := Lib.hid hwl
    clear hwl
    gi_wp2_with (gi_at_builtin; refine wpListIn_app _ rfl _ _ rfl Try.elI w.heap.size _ (words bs).length _ rfl (hrow.alloc _) _ 1 [_] rfl (Rv.one _ _ _) rfl (ones1 _ rfl) (by have := HWL.out; omega) (by simp; omega) ?_; intro v' w2 hown' hgrow _; obtain ⟨g', cap', rfl⟩ := ownsRow_succ hown'; obtain ⟨hv1, hv2, hr2, hk2, hb2⟩ := hv.appended (by decide) hrow hB.size hz1 hown' hgrow; have hc1 := hv1.cell; have hf1 := hv1.frozen; have hc2 := hv2.cell)
    refine ⟨trivial, ?_⟩
    have hK2 := hk2.same D _ hK rfl
    have hwB : Below w.heap.size w (w2.setCell ⟨w1.heap.size, 0, none⟩ (.slice (some ⟨g', 0, none⟩) ((words bs).length + 1) cap')) := hB.trans hb2
    refine (callsIn_wide.2 (hsum_any s _ ((words bs).map toI ++ [(bs.length : Int)]) _ ?_ hs ?_)).mono ?_
    · rw [List.length_append, List.length_map, List.map_append]
      exact Rv.of_own hr2
    · rw [List.length_append, List.length_map, HWL.out]; simp; omega
    · rintro e w3 ⟨rfl, hB3⟩
      have hK3 := (hB3.block D (Array.getElem?_eq_some_iff.1 hK2).1).trans hK2
      gi_wp2
      refine ⟨by simp, .inl ⟨_, _, rfl, run_takeDeferred hK3, ?_⟩⟩
      refine ⟨_, results_tmp rfl _ _ _, ret_val ?_, (hwB.trans (hB3.mono hwB.size)).trans (belowK_b (w := w) (Nat.le_refl _) w3 D _ _ (by omega) hK3 rfl rfl)⟩
      show Value.int .u64 _ = _
      rw [sumI_toI]
      rfl
  case stop =>
    rintro D c pre W _ _ h _
    exact h.elim
end Go.Proofs.Ytpehnggglolnoaa
