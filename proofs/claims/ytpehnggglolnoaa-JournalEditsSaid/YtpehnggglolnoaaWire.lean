/- Contracts of wire.Writer. -/
import Derived.Test.YtpehnggglolnoaaLibIn
import Derived.Test.YtpehnggglolnoaaSame
import Derived.Test.YtpehnggglolnoaaWireM
import Derived.Lib.AppendStr
namespace Go.Proofs.Ytpehnggglolnoaa
open Go.RowKit

/-- A Writer in block b: its slice v holds bs. -/
def Wr (w : World) (b : Nat) (v : Value) (bs : List UInt8) : Prop := Boxed w b 70 v ∧ w.ownsRow b 5 1 v bs.length (bs.map vB)

/-- What an operation on the Writer in block b, whose slice was v and is v', may change. -/
structure WStep (w w' : World) (b : Nat) (v v' : Value) : Prop where
  os : w'.os = w.os
  tape : w'.tape = w.tape
  output : w'.output = w.output
  size : w.heap.size ≤ w'.heap.size
  block : ∀ k, k < w.heap.size → k ≠ b → some k ≠ v.ownBlock → w'.heap[k]? = w.heap[k]?
  own : SameOrNew w v v'

theorem WStep.refl (w : World) (b : Nat) (v : Value) : WStep w w b v v := ⟨rfl, rfl, rfl, Nat.le_refl _, fun _ _ _ _ => rfl, .inl rfl⟩
theorem WStep.trans {w w1 w2 : World} {b : Nat} {v v1 v2 : Value} (h : WStep w w1 b v v1) (h' : WStep w1 w2 b v1 v2) : WStep w w2 b v v2 := by
  refine ⟨h'.os.trans h.os, h'.tape.trans h.tape, h'.output.trans h.output, Nat.le_trans h.size h'.size, fun k hk hb hv => ?_, ?_⟩
  · refine (h'.block k (Nat.lt_of_lt_of_le hk h.size) hb ?_).trans (h.block k hk hb hv)
    rcases h.own with e | e
    · rw [e]; exact hv
    · intro e'; have := e k e'.symm; omega
  · rcases h'.own with e' | e'
    · rcases h.own with e | e
      · exact .inl (e'.trans e)
      · exact .inr fun g hg => e g (by rw [← e']; exact hg)
    · exact .inr fun g hg => Nat.le_trans h.size (e' g hg)
theorem WStep.below {w w' : World} {b : Nat} {v v' : Value} {bs : List UInt8} (h : WStep w w' b v v') (hw : Wr w b v bs) : Below b w w' :=
  ⟨h.os, h.tape, h.output, h.size, fun k hk => by
    have hlt := hw.1.lt
    exact h.block k (by omega) (by omega) (fun e => by have := (hw.2.lt k e.symm).1; omega)⟩

/-- One append and its store. -/
theorem Wr.appended {w w1 : World} {b : Nat} {v v' : Value} {bs bs' : List UInt8} {m : Nat} {tmp : Obj} (h : Wr w b v bs)
    (hown : w1.ownsRow b 5 1 v' m (bs'.map vB)) (hg : (w.alloc tmp).grownBy w1 v.ownBlock) (hs : SameOrNew (w.alloc tmp) v v') :
    Wr (w1.setCell ⟨b, 0, none⟩ v') b v' bs' ∧ WStep w (w1.setCell ⟨b, 0, none⟩ v') b v v' := by
  obtain ⟨h1, h2, h3, _, _⟩ := h.1.appended (by decide) h.2 (Nat.le_of_lt h.1.lt) (Nat.le_refl _) hown hg
  have hm : m = bs'.length := by have := hown.1; simp at this; omega
  subst hm
  have hsz := hg.size
  simp only [World.size_alloc] at hsz
  refine ⟨⟨h2, h3⟩, hg.os, hg.tape, hg.output, by simp; omega, fun k hk hb hv => ?_, ?_⟩
  · rw [Below.heap_setCell _ _ _ _ (by simpa using hb), hg.block k (by simp; omega) hv]
    exact Below.heap_alloc _ _ _ hk
  · rcases hs with e | e
    · exact .inl e
    · exact .inr fun g hg' => by have := e g hg'; simp at this; omega

theorem Wr.boxed {w w1 : World} {b : Nat} {v : Value} {bs : List UInt8} (h : Wr w b v bs) (hg : w.grownBy w1 v.ownBlock) : Boxed w1 b 70 v := h.1.kept hg (h.1.not_row (by decide) h.2)

theorem Rv.rd {w : World} {ao : Option Addr} {n cap : Nat} {us : List Value} (h : Rv w (.slice ao n cap) n us) : Rd w ao us := by
  obtain ⟨ao, cap, h1, h2, _, _, h5⟩ := h
  cases h1; exact h5

/-- The same, with no block in between. -/
theorem Wr.next {w w1 : World} {b : Nat} {v v' : Value} {bs bs' : List UInt8} {m : Nat} (h : Wr w b v bs)
    (hown : w1.ownsRow b 5 1 v' m (bs'.map vB)) (hg : w.grownBy w1 v.ownBlock) (hs : SameOrNew w v v') :
    Wr (w1.setCell ⟨b, 0, none⟩ v') b v' bs' ∧ WStep w (w1.setCell ⟨b, 0, none⟩ v') b v v' := by
  have hm : m = bs'.length := by have := hown.1; simp at this; omega
  subst hm
  refine ⟨⟨(h.boxed hg).set v', hown.kept (grownBy_setCell' w1 b v') (.inr ((h.boxed hg).not_row (by decide) hown).symm)⟩, hg.os, hg.tape, hg.output, by simpa using hg.size, fun k hk hb hv => ?_, hs⟩
  rw [Below.heap_setCell _ _ _ _ (by simpa using hb)]
  exact hg.block k hk hv

/-- The operation has appended: the Writer now holds bs. -/
def WPost (w : World) (b : Nat) (v : Value) (bs : List UInt8) (en : Ending) (w' : World) : Prop := ∃ v', en = .returned (.tuple #[]) ∧ Wr w' b v' bs ∧ WStep w w' b v v'

theorem byte_low (m : Nat) : Value.int .u8 ((m : Int) % 256) = vB (UInt8.ofNat m) := by
  rw [vB, UInt8.toNat_ofNat']
  congr 1
theorem byte_high (m : Nat) : Value.int .u8 (bits BinOp.or IntKind.u8 ((m : Int) % 256) 128) = vB (UInt8.ofNat (128 + m % 128)) := by
  have h := u8_or_nat (m % 256) 128 (by omega) (by omega)
  have e : ∀ a, a < 256 → a ||| 128 = 128 + a % 128 := by decide +kernel
  rw [e _ (by omega)] at h
  rw [vB, UInt8.toNat_ofNat', show (m : Int) % 256 = ((m % 256 : Nat) : Int) from by omega]
  congr 1
  refine h.trans ?_
  omega

set_option maxHeartbeats 1000000 in
theorem wuint_any (b : Nat) (v : Value) (bs : List UInt8) (n : Nat) (w : World) (h : Wr w b v bs) (hn : n < 18446744073709551616) (hl : bs.length ≤ 1099511627776) :
    Calls Try.prog 35 #[.pointer (some ⟨b, 0, none⟩), .int .u64 (n : Int)] w (WPost w b v (bs ++ uvar n)) := by
  have HN := Lib.hid hn
  clear hn
  go_enter Try.func35, Try.ntmps35
  go_wp2
  go_loopw [1] (fun nv wr => ∃ (m : Nat) (pre : List UInt8) (v1 : Value), nv = .int .u64 (m : Int) ∧ m ≤ n ∧ Hid (bs ++ uvar n = pre ++ uvar m) ∧ Wr wr b v1 pre ∧ WStep w wr b v v1) (fun nv _ => (intOf nv).toNat)
  case atStart => exact ⟨n, bs, v, rfl, Nat.le_refl _, rfl, h, WStep.refl _ _ _⟩
  case round =>
    obtain ⟨m, pre, v1, rfl, hmn, HE, hW, hS⟩ := hrel
    have hpl : pre.length ≤ 1099511627786 := by
      have := congrArg List.length HE.out
      have h10 := uvar_len n
      simp only [List.length_append] at this
      omega
    have hc1 := hW.1.cell
    have hf1 := hW.1.frozen
    have hb1 := hW.1.lt
    by_cases hlt : m < 128
    · have hd : decide ((128 : Int) ≤ (m : Int)) = false := by simp; omega
      have HL := Lib.hid hlt
      clear hlt
      go_wp2_with (at_builtin; refine wpList_app2 _ rfl _ _ rfl Try.elB b v1 _ _ rfl (hW.2.alloc _) _ 1 [_] rfl (Rv.one _ _ _) rfl (ones1 _ rfl) (by omega) (by simp; omega) ?_; intro v2 w2 hown hg hs; obtain ⟨g2, cap2, rfl⟩ := ownsRow_succ hown; obtain ⟨h1, _⟩ := hW.1.appended (by decide) hW.2 (Nat.le_of_lt hb1) (Nat.le_refl _) hown hg; have hc2 := h1.cell; have hf2 := h1.frozen)
      go_end0
      have hfin : bs ++ uvar n = pre ++ [UInt8.ofNat m] := by rw [HE.out, uvar_small HL.out]
      rw [byte_low, show pre.map vB ++ [vB (UInt8.ofNat m)] = (pre ++ [UInt8.ofNat m]).map vB from by simp] at hown
      obtain ⟨q1, q2⟩ := hW.appended hown hg hs
      rw [hfin]
      exact ⟨_, rfl, q1, hS.trans q2⟩
    · have hd : decide ((128 : Int) ≤ (m : Int)) = true := by simp; omega
      have HL := Lib.hid hlt
      clear hlt
      go_wp2_with (at_builtin; refine wpList_app2 _ rfl _ _ rfl Try.elB b v1 _ _ rfl (hW.2.alloc _) _ 1 [_] rfl (Rv.one _ _ _) rfl (ones1 _ rfl) (by omega) (by simp; omega) ?_; intro v2 w2 hown hg hs; obtain ⟨g2, cap2, rfl⟩ := ownsRow_succ hown; obtain ⟨h1, _⟩ := hW.1.appended (by decide) hW.2 (Nat.le_of_lt hb1) (Nat.le_refl _) hown hg; have hc2 := h1.cell; have hf2 := h1.frozen)
      have hm64 : m < 18446744073709551616 := by have := HN.out; omega
      have hfin : bs ++ uvar n = (pre ++ [UInt8.ofNat (128 + m % 128)]) ++ uvar (m / 128) := by
        rw [HE.out, uvar_step (by have := HL.out; omega) hm64, List.append_assoc]; rfl
      rw [byte_high, show pre.map vB ++ [vB (UInt8.ofNat (128 + m % 128))] = (pre ++ [UInt8.ofNat (128 + m % 128)]).map vB from by simp] at hown
      obtain ⟨q1, q2⟩ := hW.appended hown hg hs
      have hm1 : 128 ≤ m := by have := HL.out; omega
      clear HL hm64
      go_roundw
      case rel => exact ⟨m / 128, pre ++ [UInt8.ofNat (128 + m % 128)], _, by go_num, by omega, hfin, q1, hS.trans q2⟩
      case measure => simp [intOf]; omega

theorem zz_bits (n : Int) (hn : -9223372036854775808 ≤ n) (hn' : n ≤ 9223372036854775807) :
    bits BinOp.xor IntKind.u64 (IntKind.u64.wrap (IntKind.u64.wrap n * 2)) (IntKind.u64.wrap (n / 9223372036854775808)) = ((zz n : Nat) : Int) ∧ zz n < 18446744073709551616 := by
  simp only [IntKind.wrap_u64, zz]
  by_cases h : n < 0
  · rw [if_pos h]
    obtain ⟨k, rfl⟩ : ∃ k : Nat, n = -((k : Int) + 1) := ⟨(-(n + 1)).toNat, by omega⟩
    have e1 : (-((k : Int) + 1) % 18446744073709551616 * 2) % 18446744073709551616 = ((18446744073709551614 - 2 * k : Nat) : Int) := by omega
    have e2 : (-((k : Int) + 1) / 9223372036854775808) % 18446744073709551616 = ((18446744073709551615 : Nat) : Int) := by omega
    rw [e1, e2, bits_xor_u64_nat _ _ (by omega) (by omega)]
    have hx : (18446744073709551614 - 2 * k) ^^^ 18446744073709551615 = 2 * k + 1 := by
      have h2 := congrArg BitVec.toNat (BitVec.not_def (x := BitVec.ofNat 64 (18446744073709551614 - 2 * k)))
      rw [BitVec.toNat_not, BitVec.toNat_xor, BitVec.toNat_allOnes, BitVec.toNat_ofNat, Nat.mod_eq_of_lt (by omega), Nat.xor_comm] at h2
      have h3 : (2 ^ 64 - 1 : Nat) = 18446744073709551615 := by decide
      rw [h3] at h2
      rw [← h2]; omega
    rw [hx]
    constructor <;> omega
  · rw [if_neg h]
    obtain ⟨k, rfl⟩ : ∃ k : Nat, n = (k : Int) := ⟨n.toNat, by omega⟩
    have e1 : ((k : Int) % 18446744073709551616 * 2) % 18446744073709551616 = ((k * 2 : Nat) : Int) := by omega
    have e2 : ((k : Int) / 9223372036854775808) % 18446744073709551616 = ((0 : Nat) : Int) := by omega
    rw [e1, e2, bits_xor_u64_nat _ _ (by omega) (by omega), Nat.xor_zero]
    constructor <;> simp <;> omega

theorem wint_any (b : Nat) (v : Value) (bs : List UInt8) (n : Int) (w : World) (h : Wr w b v bs) (hn : -9223372036854775808 ≤ n) (hn' : n ≤ 9223372036854775807) (hl : bs.length ≤ 1099511627776) :
    Calls Try.prog 32 #[.pointer (some ⟨b, 0, none⟩), .int .i64 n] w (WPost w b v (bs ++ zvar n)) := by
  obtain ⟨hz, hz'⟩ := zz_bits n hn hn'
  go_enter Try.func32, Try.ntmps32
  go_wp2_with fail
  refine (wuint_any b v bs _ _ h hz' hl).mono ?_
  rintro en w' ⟨v', rfl, h1, h2⟩
  go_wp2_with fail
  go_end0
  exact ⟨v', rfl, h1, h2⟩


theorem strCells_vB (s : ByteArray) : Lib.strCells s = s.data.toList.map vB := rfl

theorem run_append_string2 {P : Program} (w : World) (base : Nat) (t u ty e : TypeId) (i : TypeInfo) (ht : P.underlying t = some (.slice e)) (hu : P.underlying u = some .string) (hi : P.info? e = some i) (hz : i.zero = some (.int .u8 0))
    (hsize : i.size = 1) (hby : i.bytes = 1) (v : Value) (n : Nat) (xs : List Value) (hown : w.ownsRow base e 1 v n xs) (s : ByteArray)
    (h63 : n + s.size ≤ maxLen) (hbytes : n + s.size ≤ 140737488355328) (hbase : base ≤ w.heap.size) :
    ∃ v' w', (Builtin.append_ #[t, u] ty #[v, .string s]).run P w = .ok v' w' ∧ w'.ownsRow base e 1 v' (n + s.size) (xs ++ Lib.strCells s) ∧ w.grownBy w' v.ownBlock ∧ SameOrNew w v v' := by
  have hown0 := hown
  have hxl : xs.length = n := by simpa using hown.1
  obtain ⟨v', w', hr, h2, h3, _⟩ := Lib.run_append_own_string (P := P) w base t u ty e i ht hu hi hz hsize hby v n xs hown s h63 hbytes hbase
  rcases hown.2 with ⟨rfl, rfl⟩ | ⟨g, cap, cur, rfl, hbg, hg, hnc, hcm, hcs, htake⟩
  · obtain ⟨v'', w'', hr', h2', h3', _⟩ := Lib.run_append_own_string (P := P) w w.heap.size t u ty e i ht hu hi hz hsize hby (.slice none 0 0) 0 [] (World.ownsRow_nil w _ e 1) s h63 (by omega) (Nat.le_refl _)
    have hx : xs = [] := List.eq_nil_of_length_eq_zero (by simpa using hown0.1)
    subst hx
    exact ⟨v'', w'', hr', own_base h2' hbase, h3', .inr fun g hg => (h2'.lt g hg).1⟩
  · refine ⟨v', w', hr, h2, h3, ?_⟩
    by_cases hroom : n + s.size ≤ cap
    · have hcs' : cur.size = cap := by simpa using hcs
      have hr' := Lib.run_append_room_string (P := P) w t u ty e i ht hu hi hsize g n cap cur hg s hroom (by omega)
      rw [hr'] at hr
      cases hr
      exact .inl rfl
    · have holds : ∀ j v, xs[j]? = some v → w.cell? ((⟨g, 0, none⟩ : Addr).add j) = some v := hown0.cells (g := g) rfl
      have h63' : n + s.size ≤ 9223372036854775807 := by simp only [maxLen] at h63; omega
      have hr' := Lib.run_append_grow_string (P := P) w t u ty e i (.int .u8 0) ht hu hi hz ⟨g, 0, none⟩ n cap xs (by rw [hsize]; simpa using hxl) holds s (by omega) (by omega) (by rw [hby]; exact growslice_fits (by omega) (by omega))
      rw [hr'] at hr
      cases hr
      exact .inr fun g hg => by simp [Value.ownBlock] at hg; omega

theorem wpList_app2s {P : Program} (w : World) {ops : Array Oper} {rest : List Oper} {o : Oper} {a : Act} {Q : Exit → Act → World → Prop} (hgd : o.guard = none) (sl x : Operand) {t u e : TypeId} {z : Value}
    (ho : o.op = .call { callee := .builtin .append, args := #[sl, x], argTypes := #[t, u] })
    (E : Elem P t e z 1 1) (hu : P.underlying u = some .string) (hz0 : z = .int .u8 0) (base : Nat)
    (v : Value) (n : Nat) (xs : List Value) (hs : a.eval sl = v) (hown : w.ownsRow base e 1 v n xs) (s : ByteArray) (hx : a.eval x = .string s)
    (hbytes : n + s.data.toList.length ≤ 140737488355328) (hbase : base ≤ w.heap.size)
    (h : ∀ v' w', w'.ownsRow base e 1 v' (n + s.data.toList.length) (xs ++ s.data.toList.map vB) → w.grownBy w' v.ownBlock → SameOrNew w v v' → wpList P ops Q rest (a.put o.dst v') w') : wpList P ops Q (o :: rest) a w := by
  obtain ⟨i, hi, hz, hsize, hby⟩ := info_parts E.info
  subst hz0
  have hlen : s.data.toList.length = s.size := by simp
  rw [hlen] at hbytes h
  refine wpList_plain hgd fun K hK => ?_
  obtain ⟨v', w', hr, h2, h3, h4⟩ := run_append_string2 (P := P) w base t u o.type e i E.ht hu hi hz hsize hby v n xs hown s (by unfold maxLen; omega) hbytes hbase
  unfold Oper.wp execOp
  simp only [ho, resolve, invoke, builtin, Sem.run_bind, Sem.run_pure, Result.andThen_ok, List.map_toArray, List.map_cons, List.map_nil, hs, hx, hr]
  exact hK _ _ (h v' w' h2 h3 h4)

theorem uvarW (n : Nat) : IntKind.u64.wrap (n : Int) = ((n % 18446744073709551616 : Nat) : Int) := by rw [IntKind.wrap_u64]; omega

/-- A row of bytes with its length ahead. -/
def rawW (us : List UInt8) : List UInt8 := uvar us.length ++ us

set_option maxHeartbeats 1000000 in
theorem wraw_any (b : Nat) (v : Value) (bs : List UInt8) (c : Value) (us : List UInt8) (w : World) (hW : Wr w b v bs) (hc : Rv w c us.length (us.map vB)) (hv : ∀ w' v', WStep w w' b v v' → Rv w' c us.length (us.map vB))
    (hl : bs.length + us.length ≤ 1099511627776) :
    Calls Try.prog 33 #[.pointer (some ⟨b, 0, none⟩), c] w (WPost w b v (bs ++ rawW us)) := by
  obtain ⟨ao, cap, rfl, hcap, hrd⟩ := hc.opened
  have hu : IntKind.u64.wrap (us.length : Int) = (us.length : Int) := by rw [IntKind.wrap_u64]; omega
  go_enter Try.func33, Try.ntmps33
  go_wp2_with fail
  refine (wuint_any b v bs us.length _ hW (by omega) (by omega)).mono ?_
  rintro en w1 ⟨v1, rfl, h1, h2⟩
  have hc1 := h1.1.cell
  have hf1 := h1.1.frozen
  have hb1 := h1.1.lt
  have hrv := hv w1 v1 h2
  have hpl : (bs ++ uvar us.length).length ≤ bs.length + 10 := by have := uvar_len us.length; simp; omega
  go_wp2_with (at_builtin; refine wpList_app2 _ rfl _ _ rfl Try.elB b v1 _ _ rfl h1.2 _ us.length _ rfl hrv (by simp) (ones_B _) (by omega) (Nat.le_of_lt hb1) ?_; intro v2 w2 hown hg hs; obtain ⟨k2, ao2, cap2, rfl⟩ := own_shape hown; have hc2 := (h1.boxed hg).cell; have hf2 := (h1.boxed hg).frozen)
  go_end0
  rw [← List.map_append] at hown
  obtain ⟨q1, q2⟩ := h1.next hown hg hs
  rw [rawW, ← List.append_assoc]
  exact ⟨_, rfl, q1, h2.trans q2⟩


/-- Integers with their count ahead. -/
def zvars (us : List Int) : List UInt8 := us.flatMap zvar
def intsW (us : List Int) : List UInt8 := uvar us.length ++ zvars us

theorem zvars_len (us : List Int) : (zvars us).length ≤ 10 * us.length := by
  induction us with
  | nil => simp [zvars]
  | cons u us ih =>
    have := uvar_len (zz u)
    simp only [zvars, List.flatMap_cons, List.length_append, List.length_cons, zvar] at ih ⊢
    omega

theorem zvars_snoc (us : List Int) (i : Nat) (hi : i < us.length) : zvars (us.take (i + 1)) = zvars (us.take i) ++ zvar us[i] := by
  rw [List.take_succ_eq_append_getElem hi]
  simp only [zvars, List.flatMap_append, List.flatMap_cons, List.flatMap_nil, List.append_nil]

set_option maxHeartbeats 1000000 in
theorem wints_any (b : Nat) (v : Value) (bs : List UInt8) (c : Value) (us : List Int) (w : World) (hW : Wr w b v bs) (hc : Rv w c us.length (us.map (Value.int .i64)))
    (hv : ∀ w' v', WStep w w' b v v' → Rv w' c us.length (us.map (Value.int .i64))) (hu : ∀ u ∈ us, -9223372036854775808 ≤ u ∧ u ≤ 9223372036854775807)
    (hl : bs.length + 10 * us.length ≤ 1099511627776) :
    Calls Try.prog 56 #[.pointer (some ⟨b, 0, none⟩), c] w (WPost w b v (bs ++ intsW us)) := by
  obtain ⟨ao, cap, rfl, hcap, hrd⟩ := hc.opened
  have hwr : IntKind.u64.wrap (us.length : Int) = (us.length : Int) := by rw [IntKind.wrap_u64]; omega
  go_enter Try.func56, Try.ntmps56
  go_wp2_with fail
  refine (wuint_any b v bs us.length _ hW (by omega) (by omega)).mono ?_
  rintro en w1 ⟨v1, rfl, h1, h2⟩
  go_wp2_with fail
  go_loopw [13] (fun nv wr => ∃ (i : Nat) (v2 : Value), nv = .int .i64 (i : Int) ∧ i ≤ us.length ∧ Wr wr b v2 (bs ++ uvar us.length ++ zvars (us.take i)) ∧ WStep w wr b v v2) (fun nv _ => us.length - (intOf nv).toNat)
  case atStart => exact ⟨0, v1, rfl, Nat.zero_le _, by simpa [zvars] using h1, h2⟩
  case round =>
    obtain ⟨i, v2, rfl, hi, hW2, hS2⟩ := hrel
    have hz10 := zvars_len (us.take i)
    rw [List.length_take] at hz10
    have hul := uvar_len us.length
    by_cases hlt : i < us.length
    · obtain ⟨b2, off2, rfl, hcx⟩ := (hv _ _ hS2).rd.cell (i := i) (u := .int .i64 us[i]) (by simp [hlt])
      obtain ⟨hb1, hb2⟩ := hu us[i] (List.getElem_mem hlt)
      have H1 := Lib.hid hb1
      have H2 := Lib.hid hb2
      have HU := Lib.hid hu
      have HV := Lib.hid hv
      clear hb1 hb2 hu hv
      go_wp2_with fail
      refine (wint_any b v2 _ us[i] _ hW2 H1.out H2.out (by simp only [List.length_append]; omega)).mono ?_
      rintro en w4 ⟨v4, rfl, h4, hS4⟩
      rw [List.append_assoc, ← zvars_snoc us i hlt] at h4
      go_wp2_with fail
      go_roundw
      case rel => exact ⟨i + 1, v4, by go_num, by omega, h4, hS2.trans hS4⟩
      case measure => simp [intOf]; omega
    · obtain rfl : i = us.length := by omega
      go_wp2_with fail
      go_end0
      rw [List.take_length, List.append_assoc] at hW2
      exact ⟨v2, rfl, hW2, hS2⟩
/-- 'T{}' of a slice type. -/
theorem own_empty (w : World) (e : TypeId) : (w.alloc (.cells #[] e)).ownsRow w.heap.size e 1 (.slice (some ⟨w.heap.size, 0, none⟩) 0 0) 0 [] :=
  ⟨rfl, .inr ⟨w.heap.size, 0, #[], rfl, Nat.le_refl _, World.alloc_heap_new w _, Nat.le_refl _, Nat.zero_le _, rfl, rfl⟩⟩

set_option maxHeartbeats 1000000 in
theorem wdone_any (b : Nat) (v : Value) (bs : List UInt8) (w : World) (hW : Wr w b v bs) (hl : bs.length ≤ 140737488355328) :
    Calls Try.prog 34 #[.pointer (some ⟨b, 0, none⟩)] w (RetMade w 5 (bs.map vB)) := by
  have hc1 := hW.1.cell
  have hf1 := hW.1.frozen
  have hc2 := (hW.1.alloc (.cells #[] 5)).cell
  obtain ⟨k, ao, cap, rfl⟩ := own_shape hW.2
  go_enter Try.func34, Try.ntmps34
  go_wp2_with (at_builtin; refine wpList_app _ rfl _ _ rfl Try.elB w.heap.size _ 0 _ rfl (own_empty w _) _ bs.length _ rfl (Rv.of_own (hW.2.alloc _)) (by simp) (ones_B _) (by omega) (by simp) ?_; intro v2 w2 hown hg _)
  go_ret
  exact retMade hown (by simp) (((Below.refl _ w).alloc (Nat.le_refl _) _).grown hg (by simp) (fun g hg' => by cases hg'; exact Nat.le_refl _))
end Go.Proofs.Ytpehnggglolnoaa
