/- Package pool: slices.Clone of the workers; a drawing region ahead of a range over a function. -/
import Derived.Test.YtfdacckkdjpjhaaPlK
import Derived.Test.YtfdacckkdjpjhaaPlE
import Derived.Test.YtfdacckkdjpjhaaWid
import Derived.Lib.SliceRun
import Derived.Test.YtfdacckkdjpjhaaCpyS
import Derived.Test.YtfdacckkdjpjhaaPlF
import Derived.Test.YtfdacckkdjpjhaaPlG
namespace Go.Proofs.Ytfdacckkdjpjhaa
open Go.RowKit

theorem Try.infoWk : (Try.prog.info? 105).map (fun i => (i.zero, i.size, i.bytes)) = some (some (.agg #[.bool false, .bool false, .int .i64 0]), 3, 16) := by kernel_rfl
theorem Try.elWk : Elem Try.prog 95 105 (.agg #[.bool false, .bool false, .int .i64 0]) 3 16 := ⟨Try.underlying95, Try.infoWk, rfl, by decide, by decide⟩
theorem own_emptyS (w : World) (e : TypeId) (s : Nat) : (w.alloc (.cells #[] e)).ownsRow w.heap.size e s (.slice (some ⟨w.heap.size, 0, none⟩) 0 0) 0 [] :=
  ⟨by simp, .inr ⟨w.heap.size, 0, #[], rfl, Nat.le_refl _, World.alloc_heap_new w _, Nat.le_refl _, Nat.zero_le _, by simp, by simp⟩⟩
theorem ones_W (l : List Wk) : ∀ u ∈ wcells l, u.oneCell' = true := fun u hu => by
  obtain ⟨x, _, hx⟩ := List.mem_flatMap.1 hu
  simp only [Wk.cells, List.mem_cons, List.not_mem_nil, or_false] at hx
  rcases hx with rfl | rfl | rfl <;> rfl
set_option maxRecDepth 20000 in
set_option maxHeartbeats 1000000 in
theorem cloneW_any (v : Value) (l : List Wk) (w : World) (hv : Rv w v l.length (wcells l)) (hl : 1 ≤ l.length ∧ l.length ≤ 64) :
    Calls Try.prog 71 #[v] w fun e w' => ∃ v', e = .returned v' ∧ w'.ownsRow w.heap.size 105 3 v' l.length (wcells l) ∧ Below w.heap.size w w' := by
  obtain ⟨ao, cap, rfl, hcap, hrd⟩ := hv.opened
  have hnil : ∀ (a : Option Addr) (n c : Nat), (binOp .eql 95 (.slice a n c) (.slice none 0 0)).run Try.prog w = .ok (.bool a.isNone) w := fun a n c => Lib.run_eql_slice_nil w _ _ a n c 0 0 Try.underlying95
  cases ao with
  | none =>
    obtain ⟨_, _, e, _, _, h0, _⟩ := hv
    cases e
    have := h0 rfl
    omega
  | some a =>
    have hwl := wcells_len l
    obtain ⟨n, hn⟩ : ∃ n, l.length = n := ⟨_, rfl⟩
    rw [hn] at hv hl hwl hcap ⊢
    clear hn hrd
    go_enter Try.func71, Try.ntmps71
    go_wp2_with (at_builtin; go_loud (refine wpList_app _ rfl _ _ rfl Try.elWk w.heap.size _ 0 _ rfl (own_emptyS w _ 3) _ n _ rfl (hv.below ((Below.refl _ _).alloc (Nat.le_refl _) _)) (by omega) (ones_W l) (by omega) (by simp) ?_; intro v2 w2 hown hg _))
    go_ret
    rw [Nat.zero_add, List.nil_append] at hown
    exact ⟨_, rfl, hown, (((Below.refl _ w).alloc (Nat.le_refl _) _).grown hg (by simp) (fun g hg' => by cases hg'; exact Nat.le_refl _))⟩
theorem uponIn_wide0 {n : Nat} {P : Program} {o : Oper} {a : Act} {next next' : Act → World → Prop} {Q : Exit → Act → World → Prop} {r : Result Next} (hn : ∀ a w, next a w → next' a w)
    (h : o.upon P a next Q r) : o.uponIn Fence.wide n P a next' Q r := by
  cases r with
  | ok x w' =>
    cases x with
    | value v => exact hn _ _ h
    | skip => exact hn _ _ h
    | defer d => exact hn _ _ h
    | enter f args => exact ⟨(fun q => by cases q), (callsIn_wide (n := n - 1)).2 (Calls.mono h (fun e w'' he => by cases e <;> first | exact hn _ _ he | exact he))⟩
    | row row args => exact ⟨(fun q => by cases q), fun c cs _ => let ⟨v, w', r, s⟩ := h c cs; ⟨v, w', hn _ _ r, stepsIn_wide.2 s⟩⟩
    | round => exact h.elim
    | _ => exact h.elim
  | halt x w' => cases x <;> first | exact h | exact h.elim
theorem wpOpIn_of0 {n : Nat} {P : Program} {ops : Array Oper} {Q : Exit → Act → World → Prop} {i : Nat} {K K' : Act → World → Prop} {a : Act} {w : World} (hN : NoRows ops) (hQ : ¬ LetsOut Q) (hK : ∀ a w, K a w → K' a w) (h : wpOp P ops Q i K a w) :
    wpOpIn Fence.wide n P ops Q i K' a w := by
  unfold wpOp at h
  unfold wpOpIn
  cases ho : ops[i]? with
  | none => rw [ho] at h; exact hK _ _ h
  | some o =>
    rw [ho] at h
    simp only at h ⊢
    by_cases hw : Region.wanted o (yielded ops a.tmps) = true
    · rw [if_pos hw] at h ⊢
      rcases h with h | h
      · refine ⟨fun _ _ => trivial, ?_⟩
        rw [Oper.semAt_plain _ _ _ (hN i o ho)]
        exact uponIn_wide0 hK h
      · exact absurd h.2 hQ
    · rw [if_neg hw] at h ⊢
      exact ⟨fun _ _ => trivial, hK _ _ h⟩
theorem wpAnyIn_of0 {n : Nat} {P : Program} {md : Region.Mode} {ops : Array Oper} {Q : Exit → Act → World → Prop} (hN : NoRows ops) (hQ : ¬ LetsOut Q) : ∀ (fuel : Nat) (listed : Array Bool) (a : Act) (w : World),
    wpAny P md ops Q fuel listed a w → wpAnyIn Fence.wide n P md ops Q fuel listed a w := by
  intro fuel
  induction fuel with
  | zero => exact fun _ _ _ h => h
  | succ fuel ih => exact fun listed a w h => ⟨h.1, fun i hi => wpOpIn_of0 hN hQ (fun a w => ih _ a w) (h.2 i hi)⟩
theorem wpIn_region_of_any0 {n : Nat} {P : Program} {id : Nat} {ops : Array Oper} {Q : Exit → Act → World → Prop} {a : Act} {w : World} (hm : P.follows .mixedOrders = true) (hN : NoRows ops) (hQ : ¬ LetsOut Q)
    (h : wpAny P .any ops Q ops.size (Array.replicate ops.size false) a { w with drawn := w.drawn + 1 }) : (Code.region id ops true).wpIn Fence.wide n P Q a w :=
  wpIn_region_any hm (wpAnyIn_of0 hN hQ _ _ _ _ h)
/-- copy of a row of tries. -/
theorem copyT {P : Program} {w : World} {dT sT ty : TypeId} {base tb n : Nat} {sv : Value} {cur : Array Value} {xs : List Value} (hu : P.underlying dT = some (.slice 112)) (hs : (P.info? 112).map (·.size) = some 2)
    (hO : w.ownsRow base 112 2 sv n xs) (hg : w.heap[tb]? = some (.cells cur 112 (0, 0))) (hc : cur.size = n * 2) (h1 : ∀ v ∈ xs, v.oneCell' = true) :
    ∃ w', (Builtin.copy_ #[dT, sT] ty #[.slice (some ⟨tb, 0, none⟩) n n, sv]).run P w = .ok (goInt n) w' ∧ w'.heap[tb]? = some (.cells xs.toArray 112 (0, 0)) ∧ w.grownBy w' (some tb) ∧ w'.heap.size = w.heap.size := by
  have hlen := hO.1
  rcases hO.2 with ⟨rfl, h0⟩ | ⟨g, cap, cur2, rfl, _⟩
  · subst h0
    have hx : xs = [] := List.eq_nil_of_length_eq_zero (by simpa using hlen)
    have hcur : cur = #[] := Array.eq_empty_of_size_eq_zero (by simpa using hc)
    subst hx hcur
    exact ⟨w, run_copy_nil P w dT sT ty _ ⟨tb, 0, none⟩ 0 0 hu (by
      cases h : P.info? 112 with
      | none => rw [h] at hs; cases hs
      | some i => rfl), hg, World.grownBy.refl _ _, rfl⟩
  · have hsrc : ∀ j v, xs[j]? = some v → w.cell? ((⟨g, 0, none⟩ : Addr).add j) = some v := hO.cells (g := g) rfl
    have hrun := run_copy_rowS P w dT sT ty _ tb 0 n n 2 ⟨g, 0, none⟩ n cap cur _ xs hu hs hg (by rw [hlen, show Nat.min n n = n from Nat.min_self n]) hsrc (by omega) h1
    have hsz : cur.toList.length = xs.length := by rw [Array.length_toList]; omega
    rw [show Nat.min n n = n from Nat.min_self n, List.take_zero, List.nil_append, Nat.zero_add, List.drop_of_length_le (by omega), List.append_nil] at hrun
    have hsr := setRow_heap w tb cur xs.toArray _ (0, 0) hg
    refine ⟨_, hrun, hsr, ⟨rfl, rfl, rfl, by simp [World.setRow], fun k hk hn => setRow_other w tb k _ (fun e => hn (by rw [e]))⟩, by simp [World.setRow]⟩
/-- The same as one operation. -/
theorem opCopyT {P : Program} {w : World} {o : Oper} {a : Act} {K : Act → World → Prop} {Q : Exit → Act → World → Prop} {dT sT : TypeId} {base tb n : Nat} {sv : Value} {cur : Array Value} {xs : List Value} (d s : Operand)
    (ho : o.op = .call { callee := .builtin .copy, args := #[d, s], argTypes := #[dT, sT] })
    (hu : P.underlying dT = some (.slice 112)) (hs : (P.info? 112).map (·.size) = some 2)
    (hd : a.eval d = .slice (some ⟨tb, 0, none⟩) n n) (hsv : a.eval s = sv)
    (hO : w.ownsRow base 112 2 sv n xs) (hg : w.heap[tb]? = some (.cells cur 112 (0, 0))) (hc : cur.size = n * 2) (h1 : ∀ v ∈ xs, v.oneCell' = true)
    (h : ∀ w', w'.heap[tb]? = some (.cells xs.toArray 112 (0, 0)) → w.grownBy w' (some tb) → w'.heap.size = w.heap.size → K (a.put o.dst (goInt n)) w') : Oper.wp P o a w K Q := by
  obtain ⟨w', hrun, h2, h3, h4⟩ := copyT (P := P) (sT := sT) (ty := o.type) hu hs hO hg hc h1
  unfold Oper.wp execOp
  simp only [ho, resolve, invoke, builtin, Sem.run_bind, Sem.run_pure, Result.andThen_ok, List.map_toArray, List.map_cons, List.map_nil, hd, hsv, hrun]
  exact h w' h2 h3 h4
theorem flat_lenT (l : List (Int × Int)) : (tcells l).length = l.length * 2 := by
  induction l with
  | nil => rfl
  | cons x l ih =>
    have e : tcells (x :: l) = [.int .i64 x.1, .int .i64 x.2] ++ tcells l := rfl
    rw [e, List.length_append, ih, List.length_cons]
    simp
    omega
theorem ones_T (l : List (Int × Int)) : ∀ u ∈ tcells l, u.oneCell' = true := fun u hu => by
  obtain ⟨x, _, hx⟩ := List.mem_flatMap.1 hu
  simp only [List.mem_cons, List.not_mem_nil, or_false] at hx
  rcases hx with rfl | rfl <;> rfl
/-- A copy with the tasks pre; its blocks lie from lo on. -/
structure CpX (lo : Nat) (W : World) (D : Pl) (c mb : Nat) (wv : Value) (BV AV : Int → Value) (F : Int → Option Value) (ks : List Int) (B : Int → Nat) (TV : Int → Value) (pre : List Int) : Prop where
  blk : W.heap[c]? = some (plO D wv mb)
  row : W.ownsRow lo 105 3 wv D.ws.length (wcells D.ws)
  map : MapF W mb F ks
  emp : ∀ k, k ∉ pre → F k = none
  en : ∀ k ∈ pre, ∀ e, D.ts k = some e → F k = some (.pointer (some ⟨B k, 0, none⟩)) ∧ W.heap[B k]? = some (enO e (BV k) (TV k) (AV k)) ∧ lo ≤ B k
  tr : ∀ k ∈ pre, ∀ e, D.ts k = some e → W.ownsRow lo 112 2 (TV k) e.tries.length (tcells e.tries)
  inj : ∀ j ∈ pre, ∀ k ∈ pre, ∀ e f, D.ts j = some e → D.ts k = some f → B j = B k → j = k
  tsep : ∀ j ∈ pre, ∀ k ∈ pre, ∀ e f b, D.ts j = some e → D.ts k = some f → (TV j).ownBlock = some b → (TV k).ownBlock = some b → j = k
  lo' : lo ≤ c ∧ lo ≤ mb
section
variable {lo : Nat} {W W' : World} {D : Pl} {c mb : Nat} {wv : Value} {BV AV TV : Int → Value} {F : Int → Option Value} {ks : List Int} {B : Int → Nat} {pre : List Int}
theorem own_cellsK {w : World} {base size n : Nat} {e : TypeId} {v : Value} {xs : List Value} (h : w.ownsRow base e size v n xs) {g : Nat} (hg : v.ownBlock = some g) : ∃ o : Obj, w.heap[g]? = some o ∧ o.isCells = true := by
  rcases h.2 with ⟨rfl, _⟩ | ⟨g', cap, cur, rfl, _, hk, _⟩
  · cases hg
  · cases hg
    exact ⟨_, hk, rfl⟩
/-- Where its rows and cells, and its map, lie as they did. -/
theorem CpX.kept (h : CpX lo W D c mb wv BV AV F ks B TV pre) (hc : ∀ b, lo ≤ b → (∃ o : Obj, W.heap[b]? = some o ∧ o.isCells = true) → W'.heap[b]? = W.heap[b]?) (hm : W'.heap[mb]? = W.heap[mb]?) : CpX lo W' D c mb wv BV AV F ks B TV pre :=
  ⟨(hc c h.lo'.1 ⟨_, h.blk, rfl⟩).trans h.blk, own_same h.row (fun b hb => hc b (h.row.lt b hb).1 (own_cellsK h.row hb)), h.map.kept hm, h.emp,
    fun k hk e he => ⟨(h.en k hk e he).1, (hc _ (h.en k hk e he).2.2 ⟨_, (h.en k hk e he).2.1, rfl⟩).trans (h.en k hk e he).2.1, (h.en k hk e he).2.2⟩,
    fun k hk e he => own_same (h.tr k hk e he) (fun b hb => hc b ((h.tr k hk e he).lt b hb).1 (own_cellsK (h.tr k hk e he) hb)), h.inj, h.tsep, h.lo'⟩
/-- One task more. -/
theorem CpX.snoc (h : CpX lo W D c mb wv BV AV F ks B TV pre) {x : Int} {e : En} {ob : Nat} {tv : Value} {ks' : List Int} (hx : x ∉ pre) (he : D.ts x = some e) (hlo : lo ≤ W.heap.size)
    (hk : ∀ b, b < W.heap.size → b ≠ mb → W'.heap[b]? = W.heap[b]?) (hm : MapF W' mb (fun k => if k = x then some (.pointer (some ⟨ob, 0, none⟩)) else F k) ks')
    (hob : W'.heap[ob]? = some (enO e (BV x) tv (AV x))) (hol : W.heap.size ≤ ob) (htv : W'.ownsRow W.heap.size 112 2 tv e.tries.length (tcells e.tries)) :
    CpX lo W' D c mb wv BV AV (fun k => if k = x then some (.pointer (some ⟨ob, 0, none⟩)) else F k) ks' (fun k => if k = x then ob else B k) (fun k => if k = x then tv else TV k) (pre ++ [x]) := by
  obtain ⟨arr, clock, hmb, _⟩ := h.map.ex
  have nm : ∀ b o, W.heap[b]? = some o → o.isCells = true → b ≠ mb := fun b o ho hc e2 => by rw [e2, hmb] at ho; cases ho; cases hc
  have hkc : ∀ b, (∃ o : Obj, W.heap[b]? = some o ∧ o.isCells = true) → W'.heap[b]? = W.heap[b]? := fun b ⟨o, ho, hc⟩ => hk b (Array.getElem?_eq_some_iff.1 ho).1 (nm b o ho hc)
  have hin : ∀ k, k ∈ pre ++ [x] → k ≠ x → k ∈ pre := fun k hk hn => (List.mem_append.1 hk).elim (fun h => h) (fun h => absurd (List.mem_singleton.1 h) hn)
  have hBl : ∀ k, k ∈ pre → ∀ e, D.ts k = some e → B k < W.heap.size := fun k hk e he => (Array.getElem?_eq_some_iff.1 (h.en k hk e he).2.1).1
  have hTl : ∀ k, k ∈ pre → ∀ e b, D.ts k = some e → (TV k).ownBlock = some b → b < W.heap.size := fun k hk e b he hb => ((h.tr k hk e he).lt b hb).2
  refine ⟨(hkc c ⟨_, h.blk, rfl⟩).trans h.blk, own_same h.row (fun b hb => hkc b (own_cellsK h.row hb)), hm, fun k hk2 => ?_, fun k hk2 f hf => ?_, fun k hk2 f hf => ?_, fun j hj k hk2 f g hf hg hjk => ?_, fun j hj k hk2 f g b hf hg hb1 hb2 => ?_, h.lo'⟩
  · by_cases q : k = x
    · exact absurd (by rw [q]; simp) hk2
    · simp only [if_neg q]
      exact h.emp k (fun hh => hk2 (List.mem_append_left _ hh))
  · by_cases q : k = x
    · subst q
      rw [he] at hf
      cases hf
      simp only [if_true]
      exact ⟨trivial, hob, Nat.le_trans hlo hol⟩
    · simp only [if_neg q]
      obtain ⟨h1, h2, h3⟩ := h.en k (hin k hk2 q) f hf
      exact ⟨h1, (hkc _ ⟨_, h2, rfl⟩).trans h2, h3⟩
  · by_cases q : k = x
    · subst q
      rw [he] at hf
      cases hf
      simp only [if_true]
      exact own_base htv hlo
    · simp only [if_neg q]
      have ht := h.tr k (hin k hk2 q) f hf
      exact own_same ht (fun b hb => hkc b (own_cellsK ht hb))
  · by_cases q : j = x
    · by_cases q2 : k = x
      · rw [q, q2]
      · simp only [if_pos q, if_neg q2] at hjk
        have := hBl k (hin k hk2 q2) g hg
        omega
    · by_cases q2 : k = x
      · simp only [if_neg q, if_pos q2] at hjk
        have := hBl j (hin j hj q) f hf
        omega
      · simp only [if_neg q, if_neg q2] at hjk
        exact h.inj j (hin j hj q) k (hin k hk2 q2) f g hf hg hjk
  · by_cases q : j = x
    · by_cases q2 : k = x
      · rw [q, q2]
      · simp only [if_pos q] at hb1
        simp only [if_neg q2] at hb2
        have h1 := (htv.lt b hb1).1
        have h2 := hTl k (hin k hk2 q2) g b hg hb2
        omega
    · by_cases q2 : k = x
      · simp only [if_neg q] at hb1
        simp only [if_pos q2] at hb2
        have h1 := (htv.lt b hb2).1
        have h2 := hTl j (hin j hj q) f b hf hb1
        omega
      · simp only [if_neg q] at hb1
        simp only [if_neg q2] at hb2
        exact h.tsep j (hin j hj q) k (hin k hk2 q2) f g b hf hg hb1 hb2
/-- The copy is whole. -/
theorem CpX.whole {p mb0 : Nat} {wv0 : Value} {F0 : Int → Option Value} {ks0 : List Int} {B0 : Int → Nat} {TV0 : Int → Value} {X R : Nat → Prop} {w : World} (h0 : PX w p mb0 wv0 F0 ks0 B0 TV0 BV AV X R D) (h : CpX lo W D c mb wv BV AV F ks B TV D.ids) (hlo : w.heap.size ≤ lo) (Bw : Below w.heap.size w W) :
    PX W c mb wv F ks B TV BV AV (fun b => lo ≤ b ∧ b < W.heap.size) R D := by
  have hin : ∀ k e, D.ts k = some e → k ∈ D.ids := fun k e he => (h0.ok.mem k).2 ⟨e, he⟩
  have hp := h0.later Bw
  refine ⟨h.blk, h.map, own_base h.row (Nat.zero_le _), fun k hk => h.emp k (fun hh => ?_), fun k e he => ?_, fun k e he => ?_, hp.bd, fun j k e f he hf hjk => h.inj j (hin j e he) k (hin k f hf) e f he hf hjk,
    fun j k e f b he hf h1 h2 => h.tsep j (hin j e he) k (hin k f hf) e f b he hf h1 h2, ⟨h.lo'.1, (Array.getElem?_eq_some_iff.1 h.blk).1⟩, ⟨h.lo'.2, h.map.lt⟩, fun b hb => h.row.lt b hb, fun b hb hr => ?_, fun b hb => hb.2, hp.rl, h0.ok⟩
  · obtain ⟨e, he⟩ := (h0.ok.mem k).1 hh
    rw [hk] at he
    cases he
  · obtain ⟨h1, h2, h3⟩ := h.en k (hin k e he) e he
    exact ⟨h1, h2, h3, (Array.getElem?_eq_some_iff.1 h2).1⟩
  · have ht := h.tr k (hin k e he) e he
    exact ⟨own_base ht (Nat.zero_le _), fun b hb => ht.lt b hb⟩
  · have := h0.rl b hr
    have := hb.1
    omega
end
end Go.Proofs.Ytfdacckkdjpjhaa
