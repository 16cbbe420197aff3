/- Package text: what Encode wants of plain facts. -/
import Derived.Test.YtmofakcpldbbmaaDoorTxtL
import Derived.Test.YtmofakcpldbbmaaDoorTxtN
namespace Go.Proofs.YtmofakcpldbbmaaDoor
open Go.RowKit

/-- 'make([]T, 0, n)'. -/
theorem wpList_mk0 {P : Program} (w : World) {ops : Array Oper} {rest : List Oper} {o : Oper} {a : Act} {Q : Exit → Act → World → Prop} {t e : TypeId} {z : Value} {size bytes : Nat}
    (E : Elem P t e z size bytes) (hg : o.guard = none) (l c : Operand) (hop : o.op = Op.makeSlice t l c) (base : Nat)
    (kl kc : IntKind) (n : Nat) (hl : a.eval l = .int kl 0) (hc : a.eval c = .int kc (n : Int)) (b2 : bytes * n ≤ 281474976710656) (b4 : base ≤ w.heap.size)
    (hK : ∀ ao w', w'.ownsRow base e size (.slice ao 0 n) 0 [] → w.grownBy w' none → wpList P ops Q rest (a.put o.dst (.slice ao 0 n)) w') :
    wpList P ops Q (o :: rest) a w := by
  obtain ⟨i, hi, hz, hsize, hby⟩ := info_parts E.info
  subst hby
  have hle : n ≤ i.bytes * n := Nat.le_mul_of_pos_left _ E.hby
  exact wpList_make_own w hg l c t hop base e i z size E.ht hi hz hsize kl kc n n hl hc rfl b2 (by unfold maxLen; omega) b4 (fun w' h1 h2 => hK _ w' h1 h2)

theorem one0 (s : Nat) (h : s < 128) : oneM true s = [UInt8.ofNat s] := by unfold oneM; simp [h]
theorem one1 (s : Nat) (h : ¬ s < 128) (h' : s < 2048) : oneM true s = [UInt8.ofNat (192 + s / 64), UInt8.ofNat (128 + s % 64)] := by unfold oneM; simp [h, h']
theorem one2 (s : Nat) (h : ¬ s < 2048) (h' : s < 65536) : oneM true s = [UInt8.ofNat (224 + s / 4096), UInt8.ofNat (128 + s / 64 % 64), UInt8.ofNat (128 + s % 64)] := by unfold oneM; simp [h, h', show ¬ s < 128 by omega]
theorem one3 (s : Nat) (h : ¬ s < 65536) : oneM true s = [UInt8.ofNat (240 + s / 262144), UInt8.ofNat (128 + s / 4096 % 64), UInt8.ofNat (128 + s / 64 % 64), UInt8.ofNat (128 + s % 64)] := by unfold oneM; simp [h, show ¬ s < 128 by omega, show ¬ s < 2048 by omega]

theorem cell_of_block {w w' : World} {p : Addr} (h : w'.heap[p.block]? = w.heap[p.block]?) : w'.cell? p = w.cell? p := by unfold World.cell?; rw [h]
theorem i64w (n : Int) (h : -9223372036854775808 ≤ n ∧ n ≤ 9223372036854775807) : IntKind.i64.wrap n = n := by rw [IntKind.wrap_i64]; omega
theorem i64_and63 (n : Nat) (h : n < 4611686018427387904) : bits .and .i64 (n : Int) 63 = (n : Int) % 64 := by
  have h1 : (BitVec.ofInt 64 (n : Int)).toNat = n := by
    rw [BitVec.ofInt_natCast, BitVec.toNat_ofNat]; exact Nat.mod_eq_of_lt (by omega)
  show IntKind.i64.wrap ((BitVec.ofInt 64 (n : Int) &&& BitVec.ofInt 64 63).toNat : Int) = _
  rw [BitVec.toNat_and, h1, show (BitVec.ofInt 64 63).toNat = 2 ^ 6 - 1 from rfl, Nat.and_two_pow_sub_one_eq_mod, i64w _ (by omega)]
  omega
/-- A byte behind the first. -/
theorem cont_val (n : Nat) (h : n < 4611686018427387904) : Value.int .u8 (wrap64 (128 + bits .and .i64 (n : Int) 63) % 256) = .int .u8 (128 + (n : Int) % 64) := by
  rw [i64_and63 n h, show wrap64 (128 + (n : Int) % 64) = 128 + (n : Int) % 64 from by unfold wrap64; omega]
  congr 1
  omega
theorem lead_val (a : Nat) (h : a < 256) : Value.int .u8 (IntKind.u8.wrap (IntKind.i64.wrap (a : Int))) = vB (UInt8.ofNat a) := by
  rw [i64w _ (by omega), u8_wrap _ (by omega) (by omega), vB_of a h]

end Go.Proofs.YtmofakcpldbbmaaDoor
