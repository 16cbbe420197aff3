/- Contracts of wire.Reader: the lists. -/
import Derived.Test.YtpehnggglolnoaaRead2
namespace Go.Proofs.Ytpehnggglolnoaa
open Go.RowKit

/-- 'make([]T, 0, n)'. -/
theorem wpList_mk {P : Program} (w : World) {ops : Array Oper} {rest : List Oper} {o : Oper} {a : Act} {Q : Exit → Act → World → Prop} {t e : TypeId} {z : Value} {size bytes : Nat}
    (E : Elem P t e z size bytes) (hg : o.guard = none) (l c : Operand) (hop : o.op = Op.makeSlice t l c) (base : Nat)
    (kl kc : IntKind) (n : Nat) (hl : a.eval l = .int kl 0) (hc : a.eval c = .int kc (n : Int)) (b2 : bytes * n ≤ 281474976710656) (b4 : base ≤ w.heap.size)
    (hK : ∀ ao w', w'.ownsRow base e size (.slice ao 0 n) 0 [] → w.grownBy w' none → wpList P ops Q rest (a.put o.dst (.slice ao 0 n)) w') :
    wpList P ops Q (o :: rest) a w := by
  obtain ⟨i, hi, hz, hsize, hby⟩ := info_parts E.info
  subst hby
  have hle : n ≤ i.bytes * n := Nat.le_mul_of_pos_left _ E.hby
  exact wpList_make_own w hg l c t hop base e i z size E.ht hi hz hsize kl kc n n hl hc rfl b2 (by unfold maxLen; omega) b4 (fun w' h1 h2 => hK _ w' h1 h2)

/-- What a call that changes block b alone leaves of an owned row above it. -/
theorem own_bstep {w w' : World} {b base : Nat} {e : TypeId} {size : Nat} {v : Value} {n : Nat} {xs : List Value} (h : w.ownsRow base e size v n xs) (hs : BStep b w w') (hb : b < base) : w'.ownsRow base e size v n xs := by
  obtain ⟨hl, h | ⟨g, cap, cur, rfl, hb1, hg, hn, hc, hs', ht⟩⟩ := h
  · exact ⟨hl, .inl h⟩
  · exact ⟨hl, .inr ⟨g, cap, cur, rfl, hb1, (hs.block g (Array.getElem?_eq_some_iff.1 hg).1 (by omega)).trans hg, hn, hc, hs', ht⟩⟩

theorem Rst.lt {w : World} {b : Nat} {v : Value} {bs : List UInt8} {s : RS} (h : Rst w b v bs s) : b < w.heap.size := by
  cases h with
  | ok k hk h => exact h.lt
  | bad a e he h => exact h.lt
theorem Rst.rv {w : World} {b : Nat} {v : Value} {bs : List UInt8} {s : RS} (h : Rst w b v bs s) : Rv w v bs.length (bs.map vB) ∧ v.ownBlock ≠ some b := by
  cases h with
  | ok k hk h => exact h.2
  | bad a e he h => exact h.2
theorem BStep.later {W w1 w2 : World} {b : Nat} (hB : BStep b W w1) (hb : Below W.heap.size w1 w2) : BStep b W w2 :=
  ⟨hb.os.trans hB.os, hb.tape.trans hB.tape, hb.output.trans hB.output, Nat.le_trans hB.size hb.size, fun k hk hne => (hb.block k hk).trans (hB.block k hk hne)⟩
theorem Rr.next {W w1 w2 : World} {b : Nat} {v : Value} {bs : List UInt8} {a e : Int} {s0 : RS} (h0 : Rst W b v bs s0) (h1 : Rr w1 b v bs a e) (hB : BStep b W w1) (hb : Below W.heap.size w1 w2) : Rr w2 b v bs a e :=
  ⟨(hb.block b h0.lt).trans h1.1, h0.rv.1.bstep (hB.later hb) h0.rv.2, h1.2.2⟩
theorem drop_inj {bs : List UInt8} {i j : Nat} (hi : i ≤ bs.length) (hj : j ≤ bs.length) (h : bs.drop i = bs.drop j) : i = j := by
  have := congrArg List.length h
  simp only [List.length_drop] at this
  omega
theorem Rst.next {W w1 w2 : World} {b : Nat} {v : Value} {bs : List UInt8} {s0 s : RS} (h0 : Rst W b v bs s0) (h1 : Rst w1 b v bs s) (hB : BStep b W w1) (hb : Below W.heap.size w1 w2) : Rst w2 b v bs s := by
  cases h1 with
  | ok k hk h => exact .ok k hk (h.next h0 hB hb)
  | bad a e he h => exact .bad a e he (h.next h0 hB hb)

/-- A list's read: the call's own row, the new state. -/
def LPost (w : World) (b : Nat) (v : Value) (bs : List UInt8) (s : RS) (e : TypeId) (us : List Value) (en : Ending) (w' : World) : Prop :=
  ∃ v', en = .returned v' ∧ w'.ownsRow w.heap.size e 1 v' us.length us ∧ Rst w' b v bs s ∧ BStep b w w'

/-- A reader's method as a function value. -/
def meth (f : FuncId) (b : Nat) : Value := .func (.func f) #[.pointer (some ⟨b, 0, none⟩)] #[]

theorem rdRaw_cases (s : RS) : (∃ e, (rdU s).2 = .error e ∧ rdRaw s = ([], .error e)) ∨ (∃ r, (rdU s).2 = .ok r ∧ r.length < (rdU s).1 ∧ rdRaw s = ([], .error 3)) ∨
    (∃ r, (rdU s).2 = .ok r ∧ (rdU s).1 ≤ r.length ∧ rdRaw s = (r.take (rdU s).1, .ok (r.drop (rdU s).1))) := by
  rw [rdRaw, rdL]
  rcases hp : rdU s with ⟨n, e | r⟩
  · exact .inl ⟨e, rfl, rfl⟩
  · by_cases h : r.length < n
    · exact .inr (.inl ⟨r, rfl, h, by simp [h]⟩)
    · exact .inr (.inr ⟨r, rfl, by simpa using h, by simp [h]⟩)

set_option maxHeartbeats 4000000 in
set_option maxRecDepth 20000 in
theorem rlistB_any (b : Nat) (v : Value) (bs : List UInt8) (s : RS) (w : World) (h : Rst w b v bs s) (hl : bs.length ≤ 1099511627776) :
    Calls Try.prog 71 #[.pointer (some ⟨b, 0, none⟩), meth 72 b] w (LPost w b v bs (rdRaw s).2 5 ((rdRaw s).1.map vB)) := by
  unfold meth
  have hu := ruint_any b v bs s w h
  have hcase := rdRaw_cases s
  generalize rdRaw s = q at *
  generalize rdU s = p at *
  obtain ⟨n, s'⟩ := p
  simp only at hcase hu
  rcases hcase with ⟨e, rfl, rfl⟩ | ⟨r, rfl, hn, rfl⟩ | ⟨r, rfl, hn, rfl⟩
  · go_enter Try.func71, Try.ntmps71
    go_wp2_with fail
    refine hu.mono ?_
    rintro en w1 ⟨rfl, h1, h2⟩
    obtain ⟨a1, he, h3⟩ := h1.bad_inv
    have hc2 := h3.cell2
    have hne : (e == 0) = false := by simpa using he
    go_wp2_with fail
    go_ret
    exact ⟨_, rfl, World.ownsRow_nil _ _ _ _, h1, h2⟩
  · have HN := Lib.hid hn
    clear hn
    go_enter Try.func71, Try.ntmps71
    go_wp2_with fail
    refine hu.mono ?_
    rintro en w1 ⟨rfl, h1, h2⟩
    obtain ⟨k, hk, hr, h3⟩ := h1.ok_inv
    subst hr
    have hc0 := h3.cell0
    have hc1 := h3.cell1
    have hc2 := h3.cell2
    have hf2 := h3.frozen 2
    obtain ⟨ao, cap, rfl, hcap, hrd⟩ := h3.2.1.opened
    have hgt : decide ((bs.length : Int) - (k : Int) < (n : Int)) = true := decide_eq_true (by have := HN.out; rw [List.length_drop] at this; omega)
    go_wp2_with fail
    go_quiet (fail)
    go_wp2_with fail
    go_ret
    exact ⟨_, rfl, World.ownsRow_nil _ _ _ _, .bad _ 3 (by decide) ((h3.drewN nq).err 3), (h2.drewN nq).set 2 _⟩
  · have HN := Lib.hid hn
    clear hn
    go_enter Try.func71, Try.ntmps71
    go_wp2_with fail
    refine hu.mono ?_
    rintro en w1 ⟨rfl, h1, h2⟩
    obtain ⟨k, hk, hr, h3⟩ := h1.ok_inv
    subst hr
    have hc0 := h3.cell0
    have hc1 := h3.cell1
    have hc2 := h3.cell2
    obtain ⟨ao, cap, rfl, hcap, hrd⟩ := h3.2.1.opened
    have hnk : k + n ≤ bs.length := by have := HN.out; rw [List.length_drop] at this; omega
    have hgt : decide ((bs.length : Int) - (k : Int) < (n : Int)) = false := decide_eq_false (by omega)
    have hsz1 := h2.size
    go_wp2_with fail
    go_quiet (fail)
    go_wp2_with (refine wpList_mk _ Try.elB rfl _ _ rfl w.heap.size _ _ n rfl rfl (by omega) (by simpa using hsz1) ?_; intro aol w2 hown2 hg2)
    have h4 : Rr w2 b (.slice ao bs.length cap) bs (k : Int) 0 ∧ BStep b w w2 := by
      have hb : Below w.heap.size (w1.drewN nq) w2 := (Below.refl _ _).grown hg2 (by simpa using hsz1) (fun _ e => by cases e)
      exact ⟨(h3.drewN nq).next h (h2.drewN nq) hb, (h2.drewN nq).later hb⟩
    clear hg2 hu h1 h3 hc0 hc1 hc2 hrd h2
    obtain ⟨h4, hB4⟩ := h4
    go_loopw [6, 33] (fun lv iv wr => ∃ j : Nat, j ≤ n ∧ iv = .int .u64 (j : Int) ∧ wr.ownsRow w.heap.size 5 1 lv j (((bs.drop k).take j).map vB) ∧ Rr wr b (.slice ao bs.length cap) bs ((k + j : Nat) : Int) 0 ∧ BStep b w wr) (fun _ iv _ => n - (intOf iv).toNat)
    case atStart => exact ⟨0, Nat.zero_le _, rfl, hown2, h4, hB4⟩
    case round =>
      obtain ⟨j, hj, rfl, hown, hr, hB⟩ := hrel
      by_cases hlt : j < n
      · have hkj : k + j < bs.length := by omega
        have ho := oct_any b _ bs _ _ (.ok (k + j) (by omega) hr)
        rw [List.drop_eq_getElem_cons hkj, rdO] at ho
        have htk : (bs.drop k).take (j + 1) = (bs.drop k).take j ++ [bs[k + j]] := by
          rw [List.take_succ_eq_append_getElem (by rw [List.length_drop]; omega)]
          simp
        have HT := Lib.hid htk
        clear htk
        generalize bs[k + j] = c at *
        have hsz := hB.size
        have hbl := h.lt
        go_wp2_with (first
          | (go_at_call 72; refine ho.mono ?_; rintro en w5 ⟨rfl, h5, hB5⟩; simp only [vB]; obtain ⟨k5, hk5, hd5, hr5⟩ := h5.ok_inv; obtain rfl := drop_inj (by omega) hk5 hd5; have hs5 := hB5.size; have hown5 := own_bstep hown hB5 hbl)
          | (at_builtin; refine wpList_app _ rfl _ _ rfl Try.elB w.heap.size _ j _ rfl (hown5.alloc _) _ 1 [_] rfl (Rv.one _ _ _) rfl (ones1 _ rfl) (by omega) (by simp; omega) ?_; intro v6 w6 hown6 hg6 _; have hb6 : Below w.heap.size w5 w6 := ((Below.refl _ w5).alloc (by omega) _).grown hg6 (by simp; omega) (fun g hg => (hown5.lt g hg).1); have hr6 := hr5.next h (hB.trans hB5) hb6; have hc6 := hr6.cell2))
        go_roundw
        case rel =>
          refine ⟨j + 1, hlt, by go_num, ?_, hr6, (hB.trans hB5).later hb6⟩
          rw [HT.out, List.map_append]
          exact hown6
        case measure => simp [intOf]; omega
      · obtain rfl : j = n := by omega
        go_wp2_with fail
        go_ret
        refine ⟨_, rfl, ?_, ?_, hB⟩
        · have : (((bs.drop k).take j).map vB).length = j := by simp; omega
          rw [this]; exact hown
        · rw [List.drop_drop]
          exact .ok (k + j) hnk hr

/-- What the loop of a list of integers holds. -/
def nInv (n : Nat) (s0 : RS) (j : Nat) (us : List Int) (s : RS) : Prop := rdNs n s0 = (us ++ (rdNs (n - j) s).1, (rdNs (n - j) s).2)
theorem nInv_start (n : Nat) (s : RS) : nInv n s 0 [] s := rfl
theorem nInv_step {n j : Nat} {us : List Int} {s0 s : RS} (h : nInv n s0 j us s) (hj : j < n) : nInv n s0 (j + 1) (us ++ [(rdI s).1]) (rdI s).2 := by
  rw [nInv] at h ⊢
  rw [h, show n - j = (n - (j + 1)) + 1 from by omega, rdNs]
  simp
theorem rdI_error (e : Int) : (rdI (.error e)).2 = .error e := rfl
theorem rdNs_error (n : Nat) (e : Int) : (rdNs n (.error e)).2 = .error e := by
  induction n with
  | zero => rfl
  | succ n ih => rw [rdNs, rdI_error]; exact ih
def intsOf (p : List Int × RS) : List Int × RS :=
  match p with
  | (_, .error e) => ([], .error e)
  | (us, .ok r) => (us, .ok r)
theorem nInv_bad {n j : Nat} {us : List Int} {s0 : RS} {e : Int} (h : nInv n s0 j us (.error e)) : intsOf (rdNs n s0) = ([], .error e) := by
  rw [nInv, rdNs_error] at h
  rw [h]; rfl
theorem nInv_end {n : Nat} {us : List Int} {s0 : RS} {r : List UInt8} (h : nInv n s0 n us (.ok r)) : intsOf (rdNs n s0) = (us, .ok r) := by
  rw [nInv, Nat.sub_self] at h
  rw [h]; simp [rdNs, intsOf]
theorem rdInts_cases (s : RS) : (∃ e, (rdU s).2 = .error e ∧ rdInts s = ([], .error e)) ∨ (∃ r, (rdU s).2 = .ok r ∧ r.length < (rdU s).1 ∧ rdInts s = ([], .error 3)) ∨
    (∃ r, (rdU s).2 = .ok r ∧ (rdU s).1 ≤ r.length ∧ rdInts s = intsOf (rdNs (rdU s).1 (.ok r))) := by
  rw [rdInts, rdL]
  rcases hp : rdU s with ⟨n, e | r⟩
  · exact .inl ⟨e, rfl, rfl⟩
  · by_cases h : r.length < n
    · exact .inr (.inl ⟨r, rfl, h, by simp [h]⟩)
    · refine .inr (.inr ⟨r, rfl, by simpa using h, ?_⟩)
      simp only [h, if_false]
      rcases rdNs n (.ok r) with ⟨us, e | r'⟩ <;> rfl

set_option maxHeartbeats 4000000 in
set_option maxRecDepth 20000 in
theorem rlistI_any (b : Nat) (v : Value) (bs : List UInt8) (s : RS) (w : World) (h : Rst w b v bs s) (hl : bs.length ≤ 1099511627776) :
    Calls Try.prog 82 #[.pointer (some ⟨b, 0, none⟩), meth 61 b] w (LPost w b v bs (rdInts s).2 3 ((rdInts s).1.map (Value.int .i64))) := by
  unfold meth
  have hu := ruint_any b v bs s w h
  have hcase := rdInts_cases s
  generalize rdInts s = q at *
  generalize rdU s = p at *
  obtain ⟨n, s'⟩ := p
  simp only at hcase hu
  rcases hcase with ⟨e, rfl, rfl⟩ | ⟨r, rfl, hn, rfl⟩ | ⟨r, rfl, hn, rfl⟩
  · go_enter Try.func82, Try.ntmps82
    go_wp2_with fail
    refine hu.mono ?_
    rintro en w1 ⟨rfl, h1, h2⟩
    obtain ⟨a1, he, h3⟩ := h1.bad_inv
    have hc2 := h3.cell2
    have hne : (e == 0) = false := by simpa using he
    go_wp2_with fail
    go_ret
    exact ⟨_, rfl, World.ownsRow_nil _ _ _ _, h1, h2⟩
  · have HN := Lib.hid hn
    clear hn
    go_enter Try.func82, Try.ntmps82
    go_wp2_with fail
    refine hu.mono ?_
    rintro en w1 ⟨rfl, h1, h2⟩
    obtain ⟨k, hk, hr, h3⟩ := h1.ok_inv
    subst hr
    have hc0 := h3.cell0
    have hc1 := h3.cell1
    have hc2 := h3.cell2
    have hf2 := h3.frozen 2
    obtain ⟨ao, cap, rfl, hcap, hrd⟩ := h3.2.1.opened
    have hgt : decide ((bs.length : Int) - (k : Int) < (n : Int)) = true := decide_eq_true (by have := HN.out; rw [List.length_drop] at this; omega)
    go_wp2_with fail
    go_quiet (fail)
    go_wp2_with fail
    go_ret
    exact ⟨_, rfl, World.ownsRow_nil _ _ _ _, .bad _ 3 (by decide) ((h3.drewN nq).err 3), (h2.drewN nq).set 2 _⟩
  · have HN := Lib.hid hn
    clear hn
    go_enter Try.func82, Try.ntmps82
    go_wp2_with fail
    refine hu.mono ?_
    rintro en w1 ⟨rfl, h1, h2⟩
    obtain ⟨k, hk, hr, h3⟩ := h1.ok_inv
    subst hr
    have hc0 := h3.cell0
    have hc1 := h3.cell1
    have hc2 := h3.cell2
    obtain ⟨ao, cap, rfl, hcap, hrd⟩ := h3.2.1.opened
    have hnk : k + n ≤ bs.length := by have := HN.out; rw [List.length_drop] at this; omega
    have hgt : decide ((bs.length : Int) - (k : Int) < (n : Int)) = false := decide_eq_false (by omega)
    have hsz1 := h2.size
    go_wp2_with fail
    go_quiet (fail)
    go_wp2_with (refine wpList_mk _ Try.elI rfl _ _ rfl w.heap.size _ _ n rfl rfl (by omega) (by simpa using hsz1) ?_; intro aol w2 hown2 hg2)
    have h4 : Rr w2 b (.slice ao bs.length cap) bs (k : Int) 0 ∧ BStep b w w2 := by
      have hb : Below w.heap.size (w1.drewN nq) w2 := (Below.refl _ _).grown hg2 (by simpa using hsz1) (fun _ e => by cases e)
      exact ⟨(h3.drewN nq).next h (h2.drewN nq) hb, (h2.drewN nq).later hb⟩
    clear hg2 hu h1 h3 hc0 hc1 hc2 hrd h2
    obtain ⟨h4, hB4⟩ := h4
    go_loopw [6, 33] (fun lv iv wr => ∃ (j : Nat) (us : List Int) (k2 : Nat), j ≤ n ∧ iv = .int .u64 (j : Int) ∧ us.length = j ∧ wr.ownsRow w.heap.size 3 1 lv j (us.map (Value.int .i64)) ∧ k2 ≤ bs.length ∧ Rr wr b (.slice ao bs.length cap) bs (k2 : Int) 0 ∧ BStep b w wr ∧ Hid (nInv n (.ok (bs.drop k)) j us (.ok (bs.drop k2)))) (fun _ iv _ => n - (intOf iv).toNat)
    case atStart => exact ⟨0, [], k, Nat.zero_le _, rfl, rfl, hown2, hk, h4, hB4, nInv_start _ _⟩
    case round =>
      obtain ⟨j, us, k2, hj, rfl, hul, hown, hk2, hr, hB, HI⟩ := hrel
      by_cases hlt : j < n
      · have ho := rint_any b _ bs _ _ (.ok k2 hk2 hr)
        have hst := nInv_step HI.out hlt
        generalize hx : rdI (.ok (bs.drop k2)) = x at *
        obtain ⟨x, s5⟩ := x
        simp only at ho hst
        have HT := Lib.hid hst
        clear hst hx
        have hsz := hB.size
        have hbl := h.lt
        rcases s5 with e | l5
        · go_wp2_with (first
            | (go_at_call 61; refine ho.mono ?_; rintro en w5 ⟨rfl, h5, hB5⟩; obtain ⟨a5, he5, hr5⟩ := h5.bad_inv; have hne : (e == 0) = false := by simpa using he5
               have hs5 := hB5.size; have hown5 := own_bstep hown hB5 hbl)
            | (at_builtin; refine wpList_app _ rfl _ _ rfl Try.elI w.heap.size _ j _ rfl (hown5.alloc _) _ 1 [_] rfl (Rv.one _ _ _) rfl (ones1 _ rfl) (by omega) (by simp; omega) ?_; intro v6 w6 hown6 hg6 _; have hb6 : Below w.heap.size w5 w6 := ((Below.refl _ w5).alloc (by omega) _).grown hg6 (by simp; omega) (fun g hg => (hown5.lt g hg).1); have hr6 := hr5.next h (hB.trans hB5) hb6; have hc6 := hr6.cell2))
          go_ret
          rw [nInv_bad HT.out]
          exact ⟨_, rfl, World.ownsRow_nil _ _ _ _, .bad _ e he5 hr6, (hB.trans hB5).later hb6⟩
        · go_wp2_with (first
            | (go_at_call 61; refine ho.mono ?_; rintro en w5 ⟨rfl, h5, hB5⟩; obtain ⟨k5, hk5, hd5, hr5⟩ := h5.ok_inv; have hs5 := hB5.size; have hown5 := own_bstep hown hB5 hbl)
            | (at_builtin; refine wpList_app _ rfl _ _ rfl Try.elI w.heap.size _ j _ rfl (hown5.alloc _) _ 1 [_] rfl (Rv.one _ _ _) rfl (ones1 _ rfl) (by omega) (by simp; omega) ?_; intro v6 w6 hown6 hg6 _; have hb6 : Below w.heap.size w5 w6 := ((Below.refl _ w5).alloc (by omega) _).grown hg6 (by simp; omega) (fun g hg => (hown5.lt g hg).1); have hr6 := hr5.next h (hB.trans hB5) hb6; have hc6 := hr6.cell2))
          subst hd5
          go_roundw
          case rel =>
            refine ⟨j + 1, us ++ [x], k5, hlt, by go_num, by simp [hul], ?_, hk5, hr6, (hB.trans hB5).later hb6, HT.out⟩
            rw [List.map_append]
            exact hown6
          case measure => simp [intOf]; omega
      · obtain rfl : j = n := by omega
        go_wp2_with fail
        go_ret
        rw [nInv_end HI.out]
        refine ⟨_, rfl, ?_, .ok k2 hk2 hr, hB⟩
        have : (us.map (Value.int .i64)).length = j := by simpa using hul
        show World.ownsRow _ _ _ _ _ (us.map (Value.int .i64)).length _
        rw [this]; exact hown
end Go.Proofs.Ytpehnggglolnoaa
