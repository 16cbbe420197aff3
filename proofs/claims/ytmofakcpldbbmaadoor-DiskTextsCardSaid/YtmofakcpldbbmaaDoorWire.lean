/- Contracts of wire.Writer. -/
import Derived.Test.YtmofakcpldbbmaaDoorLibIn
import Derived.Test.YtmofakcpldbbmaaDoorSame
import Derived.Test.YtmofakcpldbbmaaDoorWireM
import Derived.Lib.AppendStr
namespace Go.Proofs.YtmofakcpldbbmaaDoor
open Go.RowKit

/-- What an operation on the Writer in block b, whose slice was v and is v', may change. -/
structure WStep (w w' : World) (b : Nat) (v v' : Value) : Prop where
  os : w'.os = w.os
  tape : w'.tape = w.tape
  output : w'.output = w.output
  size : w.heap.size ≤ w'.heap.size
  block : ∀ k, k < w.heap.size → k ≠ b → some k ≠ v.ownBlock → w'.heap[k]? = w.heap[k]?
  own : SameOrNew w v v'

theorem WStep.refl (w : World) (b : Nat) (v : Value) : WStep w w b v v := ⟨rfl, rfl, rfl, Nat.le_refl _, fun _ _ _ _ => rfl, .inl rfl⟩
theorem WStep.trans {w w1 w2 : World} {b : Nat} {v v1 v2 : Value} (h : WStep w w1 b v v1) (h' : WStep w1 w2 b v1 v2) : WStep w w2 b v v2 := by
  refine ⟨h'.os.trans h.os, h'.tape.trans h.tape, h'.output.trans h.output, Nat.le_trans h.size h'.size, fun k hk hb hv => ?_, ?_⟩
  · refine (h'.block k (Nat.lt_of_lt_of_le hk h.size) hb ?_).trans (h.block k hk hb hv)
    rcases h.own with e | e
    · rw [e]; exact hv
    · intro e'; have := e k e'.symm; omega
  · rcases h'.own with e' | e'
    · rcases h.own with e | e
      · exact .inl (e'.trans e)
      · exact .inr fun g hg => e g (by rw [← e']; exact hg)
    · exact .inr fun g hg => Nat.le_trans h.size (e' g hg)
theorem Rv.rd {w : World} {ao : Option Addr} {n cap : Nat} {us : List Value} (h : Rv w (.slice ao n cap) n us) : Rd w ao us := by
  obtain ⟨ao, cap, h1, h2, _, _, h5⟩ := h
  cases h1; exact h5

theorem own_shape {w : World} {base : Nat} {e : TypeId} {size : Nat} {v : Value} {n : Nat} {xs : List Value} (h : w.ownsRow base e size v n xs) : ∃ k ao cap, v = .slice ao k cap := by
  obtain ⟨ao, cap, rfl, _, _⟩ := (Rv.of_own h).opened
  exact ⟨_, _, _, rfl⟩

theorem byte_low (m : Nat) : Value.int .u8 ((m : Int) % 256) = vB (UInt8.ofNat m) := by
  rw [vB, UInt8.toNat_ofNat']
  congr 1
theorem byte_high (m : Nat) : Value.int .u8 (bits BinOp.or IntKind.u8 ((m : Int) % 256) 128) = vB (UInt8.ofNat (128 + m % 128)) := by
  have h := u8_or_nat (m % 256) 128 (by omega) (by omega)
  have e : ∀ a, a < 256 → a ||| 128 = 128 + a % 128 := by decide +kernel
  rw [e _ (by omega)] at h
  rw [vB, UInt8.toNat_ofNat', show (m : Int) % 256 = ((m % 256 : Nat) : Int) from by omega]
  congr 1
  refine h.trans ?_
  omega

theorem zz_bits (n : Int) (hn : -9223372036854775808 ≤ n) (hn' : n ≤ 9223372036854775807) :
    bits BinOp.xor IntKind.u64 (IntKind.u64.wrap (IntKind.u64.wrap n * 2)) (IntKind.u64.wrap (n / 9223372036854775808)) = ((zz n : Nat) : Int) ∧ zz n < 18446744073709551616 := by
  simp only [IntKind.wrap_u64, zz]
  by_cases h : n < 0
  · rw [if_pos h]
    obtain ⟨k, rfl⟩ : ∃ k : Nat, n = -((k : Int) + 1) := ⟨(-(n + 1)).toNat, by omega⟩
    have e1 : (-((k : Int) + 1) % 18446744073709551616 * 2) % 18446744073709551616 = ((18446744073709551614 - 2 * k : Nat) : Int) := by omega
    have e2 : (-((k : Int) + 1) / 9223372036854775808) % 18446744073709551616 = ((18446744073709551615 : Nat) : Int) := by omega
    rw [e1, e2, bits_xor_u64_nat _ _ (by omega) (by omega)]
    have hx : (18446744073709551614 - 2 * k) ^^^ 18446744073709551615 = 2 * k + 1 := by
      have h2 := congrArg BitVec.toNat (BitVec.not_def (x := BitVec.ofNat 64 (18446744073709551614 - 2 * k)))
      rw [BitVec.toNat_not, BitVec.toNat_xor, BitVec.toNat_allOnes, BitVec.toNat_ofNat, Nat.mod_eq_of_lt (by omega), Nat.xor_comm] at h2
      have h3 : (2 ^ 64 - 1 : Nat) = 18446744073709551615 := by decide
      rw [h3] at h2
      rw [← h2]; omega
    rw [hx]
    constructor <;> omega
  · rw [if_neg h]
    obtain ⟨k, rfl⟩ : ∃ k : Nat, n = (k : Int) := ⟨n.toNat, by omega⟩
    have e1 : ((k : Int) % 18446744073709551616 * 2) % 18446744073709551616 = ((k * 2 : Nat) : Int) := by omega
    have e2 : ((k : Int) / 9223372036854775808) % 18446744073709551616 = ((0 : Nat) : Int) := by omega
    rw [e1, e2, bits_xor_u64_nat _ _ (by omega) (by omega), Nat.xor_zero]
    constructor <;> simp <;> omega

theorem strCells_vB (s : ByteArray) : Lib.strCells s = s.data.toList.map vB := rfl

theorem run_append_string2 {P : Program} (w : World) (base : Nat) (t u ty e : TypeId) (i : TypeInfo) (ht : P.underlying t = some (.slice e)) (hu : P.underlying u = some .string) (hi : P.info? e = some i) (hz : i.zero = some (.int .u8 0))
    (hsize : i.size = 1) (hby : i.bytes = 1) (v : Value) (n : Nat) (xs : List Value) (hown : w.ownsRow base e 1 v n xs) (s : ByteArray)
    (h63 : n + s.size ≤ maxLen) (hbytes : n + s.size ≤ 140737488355328) (hbase : base ≤ w.heap.size) :
    ∃ v' w', (Builtin.append_ #[t, u] ty #[v, .string s]).run P w = .ok v' w' ∧ w'.ownsRow base e 1 v' (n + s.size) (xs ++ Lib.strCells s) ∧ w.grownBy w' v.ownBlock ∧ SameOrNew w v v' := by
  have hown0 := hown
  have hxl : xs.length = n := by simpa using hown.1
  obtain ⟨v', w', hr, h2, h3, _⟩ := Lib.run_append_own_string (P := P) w base t u ty e i ht hu hi hz hsize hby v n xs hown s h63 hbytes hbase
  rcases hown.2 with ⟨rfl, rfl⟩ | ⟨g, cap, cur, rfl, hbg, hg, hnc, hcm, hcs, htake⟩
  · obtain ⟨v'', w'', hr', h2', h3', _⟩ := Lib.run_append_own_string (P := P) w w.heap.size t u ty e i ht hu hi hz hsize hby (.slice none 0 0) 0 [] (World.ownsRow_nil w _ e 1) s h63 (by omega) (Nat.le_refl _)
    have hx : xs = [] := List.eq_nil_of_length_eq_zero (by simpa using hown0.1)
    subst hx
    exact ⟨v'', w'', hr', own_base h2' hbase, h3', .inr fun g hg => (h2'.lt g hg).1⟩
  · refine ⟨v', w', hr, h2, h3, ?_⟩
    by_cases hroom : n + s.size ≤ cap
    · have hcs' : cur.size = cap := by simpa using hcs
      have hr' := Lib.run_append_room_string (P := P) w t u ty e i ht hu hi hsize g n cap cur hg s hroom (by omega)
      rw [hr'] at hr
      cases hr
      exact .inl rfl
    · have holds : ∀ j v, xs[j]? = some v → w.cell? ((⟨g, 0, none⟩ : Addr).add j) = some v := hown0.cells (g := g) rfl
      have h63' : n + s.size ≤ 9223372036854775807 := by simp only [maxLen] at h63; omega
      have hr' := Lib.run_append_grow_string (P := P) w t u ty e i (.int .u8 0) ht hu hi hz ⟨g, 0, none⟩ n cap xs (by rw [hsize]; simpa using hxl) holds s (by omega) (by omega) (by rw [hby]; exact growslice_fits (by omega) (by omega))
      rw [hr'] at hr
      cases hr
      exact .inr fun g hg => by simp [Value.ownBlock] at hg; omega

theorem wpList_app2s {P : Program} (w : World) {ops : Array Oper} {rest : List Oper} {o : Oper} {a : Act} {Q : Exit → Act → World → Prop} (hgd : o.guard = none) (sl x : Operand) {t u e : TypeId} {z : Value}
    (ho : o.op = .call { callee := .builtin .append, args := #[sl, x], argTypes := #[t, u] })
    (E : Elem P t e z 1 1) (hu : P.underlying u = some .string) (hz0 : z = .int .u8 0) (base : Nat)
    (v : Value) (n : Nat) (xs : List Value) (hs : a.eval sl = v) (hown : w.ownsRow base e 1 v n xs) (s : ByteArray) (hx : a.eval x = .string s)
    (hbytes : n + s.data.toList.length ≤ 140737488355328) (hbase : base ≤ w.heap.size)
    (h : ∀ v' w', w'.ownsRow base e 1 v' (n + s.data.toList.length) (xs ++ s.data.toList.map vB) → w.grownBy w' v.ownBlock → SameOrNew w v v' → wpList P ops Q rest (a.put o.dst v') w') : wpList P ops Q (o :: rest) a w := by
  obtain ⟨i, hi, hz, hsize, hby⟩ := info_parts E.info
  subst hz0
  have hlen : s.data.toList.length = s.size := by simp
  rw [hlen] at hbytes h
  refine wpList_plain hgd fun K hK => ?_
  obtain ⟨v', w', hr, h2, h3, h4⟩ := run_append_string2 (P := P) w base t u o.type e i E.ht hu hi hz hsize hby v n xs hown s (by unfold maxLen; omega) hbytes hbase
  unfold Oper.wp execOp
  simp only [ho, resolve, invoke, builtin, Sem.run_bind, Sem.run_pure, Result.andThen_ok, List.map_toArray, List.map_cons, List.map_nil, hs, hx, hr]
  exact hK _ _ (h v' w' h2 h3 h4)

theorem uvarW (n : Nat) : IntKind.u64.wrap (n : Int) = ((n % 18446744073709551616 : Nat) : Int) := by rw [IntKind.wrap_u64]; omega

/-- A row of bytes with its length ahead. -/
def rawW (us : List UInt8) : List UInt8 := uvar us.length ++ us

/-- Integers with their count ahead. -/
def zvars (us : List Int) : List UInt8 := us.flatMap zvar
def intsW (us : List Int) : List UInt8 := uvar us.length ++ zvars us

theorem zvars_len (us : List Int) : (zvars us).length ≤ 10 * us.length := by
  induction us with
  | nil => simp [zvars]
  | cons u us ih =>
    have := uvar_len (zz u)
    simp only [zvars, List.flatMap_cons, List.length_append, List.length_cons, zvar] at ih ⊢
    omega

theorem zvars_snoc (us : List Int) (i : Nat) (hi : i < us.length) : zvars (us.take (i + 1)) = zvars (us.take i) ++ zvar us[i] := by
  rw [List.take_succ_eq_append_getElem hi]
  simp only [zvars, List.flatMap_append, List.flatMap_cons, List.flatMap_nil, List.append_nil]

/-- 'T{}' of a slice type. -/
theorem own_empty (w : World) (e : TypeId) : (w.alloc (.cells #[] e)).ownsRow w.heap.size e 1 (.slice (some ⟨w.heap.size, 0, none⟩) 0 0) 0 [] :=
  ⟨rfl, .inr ⟨w.heap.size, 0, #[], rfl, Nat.le_refl _, World.alloc_heap_new w _, Nat.le_refl _, Nat.zero_le _, rfl, rfl⟩⟩

end Go.Proofs.YtmofakcpldbbmaaDoor
