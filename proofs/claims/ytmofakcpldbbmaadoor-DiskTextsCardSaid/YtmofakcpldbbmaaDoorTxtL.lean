/- Package text: first. -/
import Derived.Test.YtmofakcpldbbmaaDoorTxtJ
import Derived.Deep.QuietTactic
namespace Go.Proofs.YtmofakcpldbbmaaDoor
open Go.RowKit

/-- The four forms: least, greatest, lead, more. -/
def formsL : List Int := [0, 127, 0, 0, 128, 2047, 192, 1, 2048, 65535, 224, 2, 65536, 1114111, 240, 3]
/-- The package's variable as the program's text lays it. -/
def FM (w : World) : Prop := ∀ j, j < 16 → w.cell? ⟨0, j, none⟩ = some (.int .i64 (formsL.getD j 0))
theorem FM.lt {w : World} (h : FM w) : 0 < w.heap.size := World.block_lt_of_cell? w ⟨0, 0, none⟩ (h 0 (by decide))
theorem FM.below {w w' : World} {B : Nat} (h : FM w) (hb : Below B w w') (hB : 0 < B) : FM w' := fun j hj => (hb.cell (p := ⟨0, j, none⟩) hB).trans (h j hj)

def contB (c : UInt8) : Bool := decide (128 ≤ c.toNat ∧ c.toNat ≤ 191)
def foldC (s : Nat) : List UInt8 → Nat
  | [] => s
  | c :: cs => foldC (s * 64 + c.toNat % 64) cs
/-- A symbol of a form, behind its first byte x. -/
def formM (least greatest lead more : Nat) (x : Nat) (b : List UInt8) : Int × Int :=
  if b.length ≤ more then (0, 0) else
  let cs := (b.drop 1).take more
  if cs.all contB then
    let s := foldC (x - lead) cs
    if s < least ∨ greatest < s ∨ (55296 ≤ s ∧ s ≤ 57343) then (0, 0) else ((s : Int), ((1 + more : Nat) : Int))
  else (0, 0)
def firstM (b : List UInt8) : Int × Int :=
  let x := (b.headD 0).toNat
  if x ≤ 127 then (x, 1)
  else if 192 ≤ x ∧ x ≤ 223 then formM 128 2047 192 1 x b
  else if 224 ≤ x ∧ x ≤ 239 then formM 2048 65535 224 2 x b
  else if 240 ≤ x ∧ x ≤ 244 then formM 65536 1114111 240 3 x b
  else (0, 0)

theorem idx0 (w : World) : (Instr.index 48 (.agg #[.int .i64 0, .int .i64 127, .int .i64 0, .int .i64 0, .int .i64 128, .int .i64 2047, .int .i64 192, .int .i64 1, .int .i64 2048, .int .i64 65535, .int .i64 224, .int .i64 2, .int .i64 65536, .int .i64 1114111, .int .i64 240, .int .i64 3]) (.int .i64 0)).run Tryd.prog w = .ok (.agg #[.int .i64 0, .int .i64 127, .int .i64 0, .int .i64 0]) w := by kernel_rfl
theorem idx1 (w : World) : (Instr.index 48 (.agg #[.int .i64 0, .int .i64 127, .int .i64 0, .int .i64 0, .int .i64 128, .int .i64 2047, .int .i64 192, .int .i64 1, .int .i64 2048, .int .i64 65535, .int .i64 224, .int .i64 2, .int .i64 65536, .int .i64 1114111, .int .i64 240, .int .i64 3]) (.int .i64 1)).run Tryd.prog w = .ok (.agg #[.int .i64 128, .int .i64 2047, .int .i64 192, .int .i64 1]) w := by kernel_rfl
theorem idx2 (w : World) : (Instr.index 48 (.agg #[.int .i64 0, .int .i64 127, .int .i64 0, .int .i64 0, .int .i64 128, .int .i64 2047, .int .i64 192, .int .i64 1, .int .i64 2048, .int .i64 65535, .int .i64 224, .int .i64 2, .int .i64 65536, .int .i64 1114111, .int .i64 240, .int .i64 3]) (.int .i64 2)).run Tryd.prog w = .ok (.agg #[.int .i64 2048, .int .i64 65535, .int .i64 224, .int .i64 2]) w := by kernel_rfl
theorem idx3 (w : World) : (Instr.index 48 (.agg #[.int .i64 0, .int .i64 127, .int .i64 0, .int .i64 0, .int .i64 128, .int .i64 2047, .int .i64 192, .int .i64 1, .int .i64 2048, .int .i64 65535, .int .i64 224, .int .i64 2, .int .i64 65536, .int .i64 1114111, .int .i64 240, .int .i64 3]) (.int .i64 3)).run Tryd.prog w = .ok (.agg #[.int .i64 65536, .int .i64 1114111, .int .i64 240, .int .i64 3]) w := by kernel_rfl

theorem foldC_snoc (s : Nat) (cs : List UInt8) (c : UInt8) : foldC s (cs ++ [c]) = foldC s cs * 64 + c.toNat % 64 := by
  induction cs generalizing s with
  | nil => rfl
  | cons d cs ih => exact ih _
theorem foldC_lt (s : Nat) (cs : List UInt8) : foldC s cs < (s + 1) * 64 ^ cs.length := by
  induction cs generalizing s with
  | nil => simp [foldC]
  | cons d cs ih =>
    have h := ih (s * 64 + d.toNat % 64)
    have hm := Nat.mod_lt d.toNat (y := 64) (by omega)
    have h2 : (s * 64 + d.toNat % 64 + 1) * 64 ^ cs.length ≤ (s + 1) * 64 * 64 ^ cs.length := Nat.mul_le_mul_right _ (by omega)
    rw [List.length_cons, Nat.pow_succ, Nat.mul_comm (64 ^ cs.length) 64, ← Nat.mul_assoc]
    exact Nat.lt_of_lt_of_le h h2
theorem i64_or_nat (a b : Nat) (ha : a < 4611686018427387904) (hb : b < 4611686018427387904) : bits .or .i64 (a : Int) (b : Int) = ((a ||| b : Nat) : Int) := by
  have hx : a ||| b < 2 ^ 62 := Nat.or_lt_two_pow (by omega) (by omega)
  have h1 : (BitVec.ofInt 64 (a : Int)).toNat = a := by
    rw [BitVec.ofInt_natCast, BitVec.toNat_ofNat]; exact Nat.mod_eq_of_lt (by omega)
  have h2 : (BitVec.ofInt 64 (b : Int)).toNat = b := by
    rw [BitVec.ofInt_natCast, BitVec.toNat_ofNat]; exact Nat.mod_eq_of_lt (by omega)
  show IntKind.i64.wrap ((BitVec.ofInt 64 (a : Int) ||| BitVec.ofInt 64 (b : Int)).toNat : Int) = _
  rw [BitVec.toNat_or, h1, h2, IntKind.wrap_i64]
  omega
theorem or6 (s : Nat) (c : UInt8) (hs : s < 16777216) : bits .or .i64 (wrap64 ((s : Int) * 64)) ((c.toNat : Int) % 64) = ((s * 64 + c.toNat % 64 : Nat) : Int) := by
  have hm := Nat.mod_lt c.toNat (y := 64) (by omega)
  have e2 : ((s : Int) * 64) = ((s * 64 : Nat) : Int) := by simp
  have e3 : wrap64 ((s * 64 : Nat) : Int) = ((s * 64 : Nat) : Int) := by unfold wrap64; omega
  have e4 : ((c.toNat : Int) % 64) = ((c.toNat % 64 : Nat) : Int) := by simp
  rw [e2, e3, e4, i64_or_nat _ _ (by omega) (by omega)]
  congr 1
  rw [Nat.mul_comm s 64, show (64 : Nat) = 2 ^ 6 from rfl, ← Nat.two_pow_add_eq_or_of_lt (by simpa using hm) s]

def FiPost (w : World) (r : Int × Int) (en : Ending) (w' : World) : Prop := en = .returned (.tuple #[.int .i64 r.1, .int .i64 r.2]) ∧ Below w.heap.size w w'

set_option maxRecDepth 20000 in
set_option maxHeartbeats 8000000 in
theorem first_any (v : Value) (b : List UInt8) (w : World) (hv : Rv w v b.length (b.map vB)) (hb : 0 < b.length) (hl : b.length ≤ 1099511627776) (hF : FM w) :
    Calls Tryd.prog 32 #[v] w (FiPost w (firstM b)) := by
  obtain ⟨ao, cap, rfl, hcap, hrd⟩ := hv.opened
  obtain ⟨g, off, rfl, hc0⟩ := hrd.cell (i := 0) (u := vB b[0]) (by simp [hb])
  rw [Nat.add_zero] at hc0
  unfold vB at hc0
  have hfm : firstM b = if b[0].toNat ≤ 127 then ((b[0].toNat : Int), 1) else if 192 ≤ b[0].toNat ∧ b[0].toNat ≤ 223 then formM 128 2047 192 1 b[0].toNat b else if 224 ≤ b[0].toNat ∧ b[0].toNat ≤ 239 then formM 2048 65535 224 2 b[0].toNat b else if 240 ≤ b[0].toNat ∧ b[0].toNat ≤ 244 then formM 65536 1114111 240 3 b[0].toNat b else (0, 0) := by
    have : b.headD 0 = b[0] := by cases b with | nil => simp at hb | cons c cs => rfl
    unfold firstM
    rw [this]
  generalize firstM b = R at *
  generalize b[0] = x0 at *
  have hx := x0.toNat_lt
  generalize x0.toNat = x at *
  have HFM := Lib.hid hfm
  clear hfm
  have f0 := hF 0 (by decide)
  have f1 := hF 1 (by decide)
  have f2 := hF 2 (by decide)
  have f3 := hF 3 (by decide)
  have f4 := hF 4 (by decide)
  have f5 := hF 5 (by decide)
  have f6 := hF 6 (by decide)
  have f7 := hF 7 (by decide)
  have f8 := hF 8 (by decide)
  have f9 := hF 9 (by decide)
  have f10 := hF 10 (by decide)
  have f11 := hF 11 (by decide)
  have f12 := hF 12 (by decide)
  have f13 := hF 13 (by decide)
  have f14 := hF 14 (by decide)
  have f15 := hF 15 (by decide)
  simp only [formsL, List.getD_cons_zero, List.getD_cons_succ] at f0 f1 f2 f3 f4 f5 f6 f7 f8 f9 f10 f11 f12 f13 f14 f15
  go_enter Tryd.func32, Tryd.ntmps32
  go_wp2_with fail
  clear f0 f1 f2 f3 f4 f5 f6 f7 f8 f9 f10 f11 f12 f13 f14 f15
  go_loopw [15] (fun kv wr => ∃ k : Nat, kv = .int .i64 (k : Int) ∧ k ≤ 4 ∧ Hid ((1 ≤ k → 127 < x) ∧ (2 ≤ k → x < 192 ∨ 223 < x) ∧ (3 ≤ k → x < 224 ∨ 239 < x) ∧ (4 ≤ k → x < 240 ∨ 244 < x)) ∧ Below w.heap.size w wr) (fun kv _ => 4 - (intOf kv).toNat)
  case atStart => exact ⟨0, rfl, Nat.zero_le _, ⟨fun h => by omega, fun h => by omega, fun h => by omega, fun h => by omega⟩, Below.refl _ _⟩
  case round =>
    obtain ⟨k, rfl, hk, HK, hB⟩ := hrel
    obtain ⟨wo, hwo⟩ : ∃ wo : World, wo = wr := ⟨_, rfl⟩
    rw [← hwo] at hB
    subst hwo
    have hsz := hB.size
    have hk5 : k = 0 ∨ k = 1 ∨ k = 2 ∨ k = 3 ∨ k = 4 := by omega
    rcases hk5 with rfl | rfl | rfl | rfl | rfl
    · have ix := idx0
      have hw0 : IntKind.i64.wrap 0 = 0 := by rw [IntKind.wrap_i64]; decide
      have hw1 : IntKind.i64.wrap 1 = 1 := by rw [IntKind.wrap_i64]; decide
      have hw2 : IntKind.i64.wrap 127 = 127 := by rw [IntKind.wrap_i64]; decide
      have hbx : Below w.heap.size w (wo.alloc (.cells #[.int .i64 0, .int .i64 127, .int .i64 0, .int .i64 0] 47)) := hB.alloc hsz _
      by_cases hx0 : 0 ≤ x ∧ x ≤ 127
      · obtain ⟨hxa, hxb⟩ := hx0
        have hxi : (0 : Int) ≤ (x : Int) := by omega
        have hxj : (x : Int) ≤ 127 := by omega
        have hr : R = if x < 0 ∨ 127 < x ∨ (55296 ≤ x ∧ x ≤ 57343) then (0, 0) else ((x : Int), 1) := by rw [HFM.out, if_pos hxb, if_neg (by omega)]
        have HR : Hid (R = if ((b.drop 1).take 0).all contB then (if foldC (x - 0) ((b.drop 1).take 0) < 0 ∨ 127 < foldC (x - 0) ((b.drop 1).take 0) ∨ (55296 ≤ foldC (x - 0) ((b.drop 1).take 0) ∧ foldC (x - 0) ((b.drop 1).take 0) ≤ 57343) then (0, 0) else ((foldC (x - 0) ((b.drop 1).take 0) : Int), ((1 + 0 : Nat) : Int))) else (0, 0)) := by
          show _ = _
          simp only [List.take_zero, foldC, List.all_nil, if_true, Nat.sub_zero]
          exact hr
        clear hr
        have hli : (0 : Int) < (b.length : Int) := by omega
        have hlj : ¬ (b.length : Int) ≤ 0 := by omega
        have hbn : ¬ b = [] := fun e => by rw [e] at hb; simp at hb
        have hlc : (1 : Int) ≤ (cap : Int) := by omega
        have hfl : ∀ i, foldC (x - 0) (((b.drop 1).take 0).take i) < 16777216 ∨ i ≥ 1 := by
          intro i
          by_cases hi : i < 1
          · left
            have h1 := foldC_lt (x - 0) (((b.drop 1).take 0).take i)
            have h2 : (((b.drop 1).take 0).take i).length ≤ 0 := by simp <;> omega
            have h3 : (x - 0 + 1) * 64 ^ (((b.drop 1).take 0).take i).length ≤ 128 * 64 ^ 0 := Nat.mul_le_mul (by omega) (Nat.pow_le_pow_right (by decide) h2)
            omega
          · right; omega
        have HFL := Lib.hid hfl
        clear hfl
        go_wp2_with fail
        go_quiet (fail)
        go_wp2_with fail
        all_goals
          obtain ⟨W, hW⟩ : ∃ W, W = (wo.alloc (.cells #[.int .i64 0, .int .i64 127, .int .i64 0, .int .i64 0] 47)).drewN nq := ⟨_, rfl⟩
          rw [← hW]
          have BW : Below w.heap.size w W := by rw [hW]; exact belD hbx _
          have q0 : W.cell? ⟨wo.heap.size, 0, none⟩ = some (.int .i64 0) := by rw [hW]; show (wo.alloc _).cell? _ = _; simp
          have q1 : W.cell? ⟨wo.heap.size, 1, none⟩ = some (.int .i64 127) := by rw [hW]; show (wo.alloc _).cell? _ = _; simp
          have q2 : W.cell? ⟨wo.heap.size, 2, none⟩ = some (.int .i64 0) := by rw [hW]; show (wo.alloc _).cell? _ = _; simp
          have q3 : W.cell? ⟨wo.heap.size, 3, none⟩ = some (.int .i64 0) := by rw [hW]; show (wo.alloc _).cell? _ = _; simp
          clear hW ix hbx
          go_loopw [7, 50] (fun sv iv wi => ∃ i : Nat, iv = .int .i64 (i : Int) ∧ sv = .int .i64 ((foldC (x - 0) (((b.drop 1).take 0).take i) : Nat) : Int) ∧ i ≤ 0 ∧ Hid ((((b.drop 1).take 0).take i).all contB = true) ∧ W = wi) (fun _ iv _ => 0 - (intOf iv).toNat)
          case atStart => exact ⟨0, rfl, congrArg (Value.int .i64) (by simp [foldC]; try omega), Nat.zero_le _, rfl, rfl⟩
          case round =>
            obtain ⟨i, rfl, rfl, hi, HA, rfl⟩ := hrel
            obtain rfl : i = 0 := by omega
            have hdummy : True := trivial
            clear hdummy
            have hq : (((b.drop 1).take 0).take 0) = (b.drop 1).take 0 := List.take_of_length_le (by simp; try omega)
            rw [hq] at HA ⊢
            have hr := HR.out
            rw [HA.out, if_pos rfl] at hr
            clear HR HFL hq
            have hsx : foldC (x - 0) ((b.drop 1).take 0) ≤ 127 := by simp [foldC]; omega
            generalize foldC (x - 0) ((b.drop 1).take 0) = s at *
            have HR2 := Lib.hid hr
            clear hr
            have h4 : s < 0 ∨ (¬ s < 0 ∧ 127 < s) ∨ (¬ s < 0 ∧ ¬ 127 < s ∧ (55296 ≤ s ∧ s ≤ 57343)) ∨ (¬ s < 0 ∧ ¬ 127 < s ∧ ¬ (55296 ≤ s ∧ s ≤ 57343)) := by omega
            rcases h4 with h | ⟨h, h'⟩ | ⟨h, h', h''⟩ | ⟨h, h', h''⟩
            · exfalso; omega
            · exfalso; omega
            · exfalso; omega
            · have hr0 : R = ((s : Int), ((1 + 0 : Nat) : Int)) := by rw [HR2.out, if_neg (by omega)]
              subst hr0
              clear HR2
              have hsu : surr (s : Int) = false := decide_eq_false (by omega)
              clear h''
              go_wp2_with (go_at_call 35; refine (surrogate_any _ _).mono ?_; rintro e w' ⟨rfl, rfl⟩)
              go_quiet (fail)
              go_wp2_with fail
              go_ret2
              exact ⟨rfl, belD BW _⟩
      · have hx1 : (¬ x < 0 ∧ 127 < x) := by omega
        have HX := Lib.hid hx0
        clear hx0
        rcases hx1 with ⟨hx1, hx2⟩
        all_goals
          first
          | (have hxi1 : (x : Int) < 0 := by omega)
          | (have hxi1 : ¬ (x : Int) < 0 := by omega
             have hxi2 : (127 : Int) < (x : Int) := by omega)
          have HX2 : Hid (x < 0 ∨ 127 < x) := by show _ ∨ _; omega
          go_wp2_with fail
          go_quiet (fail)
          go_wp2_with fail
          go_roundw
          case rel =>
            refine ⟨1, by go_num, by omega, ?_, belD hbx _⟩
            obtain ⟨h1, h2, h3, h4⟩ := HK.out
            have h5 := HX2.out
            exact ⟨fun h => by first | omega | exact h1 (by omega), fun h => by first | omega | exact h2 (by omega), fun h => by first | omega | exact h3 (by omega), fun h => by first | omega | exact h4 (by omega)⟩
          case measure => simp [intOf]
    · have ix := idx1
      have hw0 : IntKind.i64.wrap 2 = 2 := by rw [IntKind.wrap_i64]; decide
      have hw1 : IntKind.i64.wrap 6 = 6 := by rw [IntKind.wrap_i64]; decide
      have hw2 : IntKind.i64.wrap 223 = 223 := by rw [IntKind.wrap_i64]; decide
      have hbx : Below w.heap.size w (wo.alloc (.cells #[.int .i64 128, .int .i64 2047, .int .i64 192, .int .i64 1] 47)) := hB.alloc hsz _
      by_cases hx0 : 192 ≤ x ∧ x ≤ 223
      · obtain ⟨hxa, hxb⟩ := hx0
        have hxi : (192 : Int) ≤ (x : Int) := by omega
        have hxj : (x : Int) ≤ 223 := by omega
        have hr : R = formM 128 2047 192 1 x b := by
          obtain ⟨h1, h2, h3, h4⟩ := HK.out
          rw [HFM.out, if_neg (by have := h1 (by omega); omega), if_pos ⟨hxa, hxb⟩]
        by_cases hlen : b.length ≤ 1
        · have hr0 : R = (0, 0) := by rw [hr, formM, if_pos hlen]
          subst hr0
          clear hr
          have hli : (b.length : Int) ≤ 1 := by omega
          go_wp2_with fail
          go_quiet (fail)
          go_wp2_with fail
          go_ret2
          exact ⟨rfl, belD hbx _⟩
        · have HR : Hid (R = if ((b.drop 1).take 1).all contB then (if foldC (x - 192) ((b.drop 1).take 1) < 128 ∨ 2047 < foldC (x - 192) ((b.drop 1).take 1) ∨ (55296 ≤ foldC (x - 192) ((b.drop 1).take 1) ∧ foldC (x - 192) ((b.drop 1).take 1) ≤ 57343) then (0, 0) else ((foldC (x - 192) ((b.drop 1).take 1) : Int), ((1 + 1 : Nat) : Int))) else (0, 0)) := by
            show _ = _
            rw [hr, formM, if_neg hlen]
          clear hr
          have hli : (1 : Int) < (b.length : Int) := by omega
          have hlj : ¬ (b.length : Int) ≤ 1 := by omega
          have hlc : (2 : Int) ≤ (cap : Int) := by omega
          have hfl : ∀ i, foldC (x - 192) (((b.drop 1).take 1).take i) < 16777216 ∨ i ≥ 1 := by
            intro i
            by_cases hi : i < 1
            · left
              have h1 := foldC_lt (x - 192) (((b.drop 1).take 1).take i)
              have h2 : (((b.drop 1).take 1).take i).length ≤ 0 := by simp <;> omega
              have h3 : (x - 192 + 1) * 64 ^ (((b.drop 1).take 1).take i).length ≤ 128 * 64 ^ 0 := Nat.mul_le_mul (by omega) (Nat.pow_le_pow_right (by decide) h2)
              omega
            · right; omega
          have HFL := Lib.hid hfl
          clear hfl
          go_wp2_with fail
          go_quiet (fail)
          go_wp2_with fail
          all_goals
            obtain ⟨W, hW⟩ : ∃ W, W = (wo.alloc (.cells #[.int .i64 128, .int .i64 2047, .int .i64 192, .int .i64 1] 47)).drewN nq := ⟨_, rfl⟩
            rw [← hW]
            have BW : Below w.heap.size w W := by rw [hW]; exact belD hbx _
            have q0 : W.cell? ⟨wo.heap.size, 0, none⟩ = some (.int .i64 128) := by rw [hW]; show (wo.alloc _).cell? _ = _; simp
            have q1 : W.cell? ⟨wo.heap.size, 1, none⟩ = some (.int .i64 2047) := by rw [hW]; show (wo.alloc _).cell? _ = _; simp
            have q2 : W.cell? ⟨wo.heap.size, 2, none⟩ = some (.int .i64 192) := by rw [hW]; show (wo.alloc _).cell? _ = _; simp
            have q3 : W.cell? ⟨wo.heap.size, 3, none⟩ = some (.int .i64 1) := by rw [hW]; show (wo.alloc _).cell? _ = _; simp
            clear hW ix hbx
            go_loopw [7, 50] (fun sv iv wi => ∃ i : Nat, iv = .int .i64 (i : Int) ∧ sv = .int .i64 ((foldC (x - 192) (((b.drop 1).take 1).take i) : Nat) : Int) ∧ i ≤ 1 ∧ Hid ((((b.drop 1).take 1).take i).all contB = true) ∧ W = wi) (fun _ iv _ => 1 - (intOf iv).toNat)
            case atStart => exact ⟨0, rfl, congrArg (Value.int .i64) (by simp [foldC]; try omega), Nat.zero_le _, rfl, rfl⟩
            case round =>
              obtain ⟨i, rfl, rfl, hi, HA, rfl⟩ := hrel
              by_cases hil : i < 1
              · obtain ⟨b2, off2, he, hcx⟩ := ((hv.below BW).rd).cell (i := 1 + i) (u := vB b[1 + i]) (by rw [List.getElem?_map, List.getElem?_eq_getElem (by omega)]; rfl)
                cases he
                rw [← Nat.add_assoc] at hcx
                have hsn : ((b.drop 1).take 1).take (i + 1) = ((b.drop 1).take 1).take i ++ [b[1 + i]] := by rw [List.take_succ_eq_append_getElem (by simp; omega), List.getElem_take, List.getElem_drop]
                have hall : contB b[1 + i] = false → ((b.drop 1).take 1).all contB = false := fun h => by
                  rw [← List.take_append_drop (i + 1) ((b.drop 1).take 1), hsn, List.all_append, List.all_append, List.all_cons, h]
                  simp
                have hsa : contB b[1 + i] = true → (((b.drop 1).take 1).take (i + 1)).all contB = true := fun h => by rw [hsn, List.all_append, HA.out, List.all_cons, h]; rfl
                generalize b[1 + i] = c at *
                unfold vB at hcx
                have hfs := foldC_snoc (x - 192) (((b.drop 1).take 1).take i) c
                rw [← hsn] at hfs
                have HOR := Lib.hid (or6 (foldC (x - 192) (((b.drop 1).take 1).take i)) c (by rcases HFL.out i with h | h <;> omega))
                rw [← hfs] at HOR
                by_cases hc : 128 ≤ c.toNat ∧ c.toNat ≤ 191
                · have HS := Lib.hid (hsa (decide_eq_true hc))
                  have hc1 : ¬ (c.toNat : Int) < 128 := by omega
                  have hc2 : ¬ (191 : Int) < (c.toNat : Int) := by omega
                  clear hsn hall hsa hfs hc
                  generalize foldC (x - 192) (((b.drop 1).take 1).take i) = s at *
                  go_wp2_with fail
                  go_roundw
                  case rel => exact ⟨i + 1, by go_num, congrArg (Value.int .i64) HOR.out, by omega, HS.out, by trivial⟩
                  case measure => simp [intOf]; omega
                · have hr0 : R = (0, 0) := by rw [HR.out, hall (decide_eq_false hc)]; rfl
                  subst hr0
                  clear hsn hall hsa hfs HOR HR
                  have hc3 : c.toNat < 128 ∨ (¬ c.toNat < 128 ∧ 191 < c.toNat) := by omega
                  clear hc
                  rcases hc3 with hc | ⟨hc, hc'⟩
                  all_goals
                    go_wp2_with fail
                    go_ret2
                    exact ⟨rfl, BW⟩
              · obtain rfl : i = 1 := by omega
                have hq : (((b.drop 1).take 1).take 1) = (b.drop 1).take 1 := List.take_of_length_le (by simp; try omega)
                rw [hq] at HA ⊢
                have hr := HR.out
                rw [HA.out, if_pos rfl] at hr
                clear HR HFL hq
                generalize foldC (x - 192) ((b.drop 1).take 1) = s at *
                have HR2 := Lib.hid hr
                clear hr
                have h4 : s < 128 ∨ (¬ s < 128 ∧ 2047 < s) ∨ (¬ s < 128 ∧ ¬ 2047 < s ∧ (55296 ≤ s ∧ s ≤ 57343)) ∨ (¬ s < 128 ∧ ¬ 2047 < s ∧ ¬ (55296 ≤ s ∧ s ≤ 57343)) := by omega
                rcases h4 with h | ⟨h, h'⟩ | ⟨h, h', h''⟩ | ⟨h, h', h''⟩
                · have hr0 : R = (0, 0) := by rw [HR2.out, if_pos (.inl h)]
                  subst hr0
                  clear HR2
                  go_wp2_with (go_at_call 35; refine (surrogate_any _ _).mono ?_; rintro e w' ⟨rfl, rfl⟩)
                  go_ret2
                  exact ⟨rfl, BW⟩
                · have hr0 : R = (0, 0) := by rw [HR2.out, if_pos (.inr (.inl h'))]
                  subst hr0
                  clear HR2
                  go_wp2_with (go_at_call 35; refine (surrogate_any _ _).mono ?_; rintro e w' ⟨rfl, rfl⟩)
                  go_ret2
                  exact ⟨rfl, BW⟩
                · exfalso; omega
                · have hr0 : R = ((s : Int), ((1 + 1 : Nat) : Int)) := by rw [HR2.out, if_neg (by omega)]
                  subst hr0
                  clear HR2
                  have hsu : surr (s : Int) = false := decide_eq_false (by omega)
                  clear h''
                  go_wp2_with (go_at_call 35; refine (surrogate_any _ _).mono ?_; rintro e w' ⟨rfl, rfl⟩)
                  go_quiet (fail)
                  go_wp2_with fail
                  go_ret2
                  exact ⟨rfl, belD BW _⟩
      · have hx1 : x < 192 ∨ (¬ x < 192 ∧ 223 < x) := by omega
        have HX := Lib.hid hx0
        clear hx0
        rcases hx1 with hx1 | ⟨hx1, hx2⟩
        all_goals
          first
          | (have hxi1 : (x : Int) < 192 := by omega)
          | (have hxi1 : ¬ (x : Int) < 192 := by omega
             have hxi2 : (223 : Int) < (x : Int) := by omega)
          have HX2 : Hid (x < 192 ∨ 223 < x) := by show _ ∨ _; omega
          go_wp2_with fail
          go_quiet (fail)
          go_wp2_with fail
          go_roundw
          case rel =>
            refine ⟨2, by go_num, by omega, ?_, belD hbx _⟩
            obtain ⟨h1, h2, h3, h4⟩ := HK.out
            have h5 := HX2.out
            exact ⟨fun h => by first | omega | exact h1 (by omega), fun h => by first | omega | exact h2 (by omega), fun h => by first | omega | exact h3 (by omega), fun h => by first | omega | exact h4 (by omega)⟩
          case measure => simp [intOf]
    · have ix := idx2
      have hw0 : IntKind.i64.wrap 3 = 3 := by rw [IntKind.wrap_i64]; decide
      have hw1 : IntKind.i64.wrap 12 = 12 := by rw [IntKind.wrap_i64]; decide
      have hw2 : IntKind.i64.wrap 239 = 239 := by rw [IntKind.wrap_i64]; decide
      have hbx : Below w.heap.size w (wo.alloc (.cells #[.int .i64 2048, .int .i64 65535, .int .i64 224, .int .i64 2] 47)) := hB.alloc hsz _
      by_cases hx0 : 224 ≤ x ∧ x ≤ 239
      · obtain ⟨hxa, hxb⟩ := hx0
        have hxi : (224 : Int) ≤ (x : Int) := by omega
        have hxj : (x : Int) ≤ 239 := by omega
        have hr : R = formM 2048 65535 224 2 x b := by
          obtain ⟨h1, h2, h3, h4⟩ := HK.out
          rw [HFM.out, if_neg (by have := h1 (by omega); omega), if_neg (by have := h2 (by omega); omega), if_pos ⟨hxa, hxb⟩]
        by_cases hlen : b.length ≤ 2
        · have hr0 : R = (0, 0) := by rw [hr, formM, if_pos hlen]
          subst hr0
          clear hr
          have hli : (b.length : Int) ≤ 2 := by omega
          go_wp2_with fail
          go_quiet (fail)
          go_wp2_with fail
          go_ret2
          exact ⟨rfl, belD hbx _⟩
        · have HR : Hid (R = if ((b.drop 1).take 2).all contB then (if foldC (x - 224) ((b.drop 1).take 2) < 2048 ∨ 65535 < foldC (x - 224) ((b.drop 1).take 2) ∨ (55296 ≤ foldC (x - 224) ((b.drop 1).take 2) ∧ foldC (x - 224) ((b.drop 1).take 2) ≤ 57343) then (0, 0) else ((foldC (x - 224) ((b.drop 1).take 2) : Int), ((1 + 2 : Nat) : Int))) else (0, 0)) := by
            show _ = _
            rw [hr, formM, if_neg hlen]
          clear hr
          have hli : (2 : Int) < (b.length : Int) := by omega
          have hlj : ¬ (b.length : Int) ≤ 2 := by omega
          have hlc : (3 : Int) ≤ (cap : Int) := by omega
          have hfl : ∀ i, foldC (x - 224) (((b.drop 1).take 2).take i) < 16777216 ∨ i ≥ 2 := by
            intro i
            by_cases hi : i < 2
            · left
              have h1 := foldC_lt (x - 224) (((b.drop 1).take 2).take i)
              have h2 : (((b.drop 1).take 2).take i).length ≤ 1 := by simp <;> omega
              have h3 : (x - 224 + 1) * 64 ^ (((b.drop 1).take 2).take i).length ≤ 128 * 64 ^ 1 := Nat.mul_le_mul (by omega) (Nat.pow_le_pow_right (by decide) h2)
              omega
            · right; omega
          have HFL := Lib.hid hfl
          clear hfl
          go_wp2_with fail
          go_quiet (fail)
          go_wp2_with fail
          all_goals
            obtain ⟨W, hW⟩ : ∃ W, W = (wo.alloc (.cells #[.int .i64 2048, .int .i64 65535, .int .i64 224, .int .i64 2] 47)).drewN nq := ⟨_, rfl⟩
            rw [← hW]
            have BW : Below w.heap.size w W := by rw [hW]; exact belD hbx _
            have q0 : W.cell? ⟨wo.heap.size, 0, none⟩ = some (.int .i64 2048) := by rw [hW]; show (wo.alloc _).cell? _ = _; simp
            have q1 : W.cell? ⟨wo.heap.size, 1, none⟩ = some (.int .i64 65535) := by rw [hW]; show (wo.alloc _).cell? _ = _; simp
            have q2 : W.cell? ⟨wo.heap.size, 2, none⟩ = some (.int .i64 224) := by rw [hW]; show (wo.alloc _).cell? _ = _; simp
            have q3 : W.cell? ⟨wo.heap.size, 3, none⟩ = some (.int .i64 2) := by rw [hW]; show (wo.alloc _).cell? _ = _; simp
            clear hW ix hbx
            go_loopw [7, 50] (fun sv iv wi => ∃ i : Nat, iv = .int .i64 (i : Int) ∧ sv = .int .i64 ((foldC (x - 224) (((b.drop 1).take 2).take i) : Nat) : Int) ∧ i ≤ 2 ∧ Hid ((((b.drop 1).take 2).take i).all contB = true) ∧ W = wi) (fun _ iv _ => 2 - (intOf iv).toNat)
            case atStart => exact ⟨0, rfl, congrArg (Value.int .i64) (by simp [foldC]; try omega), Nat.zero_le _, rfl, rfl⟩
            case round =>
              obtain ⟨i, rfl, rfl, hi, HA, rfl⟩ := hrel
              by_cases hil : i < 2
              · obtain ⟨b2, off2, he, hcx⟩ := ((hv.below BW).rd).cell (i := 1 + i) (u := vB b[1 + i]) (by rw [List.getElem?_map, List.getElem?_eq_getElem (by omega)]; rfl)
                cases he
                rw [← Nat.add_assoc] at hcx
                have hsn : ((b.drop 1).take 2).take (i + 1) = ((b.drop 1).take 2).take i ++ [b[1 + i]] := by rw [List.take_succ_eq_append_getElem (by simp; omega), List.getElem_take, List.getElem_drop]
                have hall : contB b[1 + i] = false → ((b.drop 1).take 2).all contB = false := fun h => by
                  rw [← List.take_append_drop (i + 1) ((b.drop 1).take 2), hsn, List.all_append, List.all_append, List.all_cons, h]
                  simp
                have hsa : contB b[1 + i] = true → (((b.drop 1).take 2).take (i + 1)).all contB = true := fun h => by rw [hsn, List.all_append, HA.out, List.all_cons, h]; rfl
                generalize b[1 + i] = c at *
                unfold vB at hcx
                have hfs := foldC_snoc (x - 224) (((b.drop 1).take 2).take i) c
                rw [← hsn] at hfs
                have HOR := Lib.hid (or6 (foldC (x - 224) (((b.drop 1).take 2).take i)) c (by rcases HFL.out i with h | h <;> omega))
                rw [← hfs] at HOR
                by_cases hc : 128 ≤ c.toNat ∧ c.toNat ≤ 191
                · have HS := Lib.hid (hsa (decide_eq_true hc))
                  have hc1 : ¬ (c.toNat : Int) < 128 := by omega
                  have hc2 : ¬ (191 : Int) < (c.toNat : Int) := by omega
                  clear hsn hall hsa hfs hc
                  generalize foldC (x - 224) (((b.drop 1).take 2).take i) = s at *
                  go_wp2_with fail
                  go_roundw
                  case rel => exact ⟨i + 1, by go_num, congrArg (Value.int .i64) HOR.out, by omega, HS.out, by trivial⟩
                  case measure => simp [intOf]; omega
                · have hr0 : R = (0, 0) := by rw [HR.out, hall (decide_eq_false hc)]; rfl
                  subst hr0
                  clear hsn hall hsa hfs HOR HR
                  have hc3 : c.toNat < 128 ∨ (¬ c.toNat < 128 ∧ 191 < c.toNat) := by omega
                  clear hc
                  rcases hc3 with hc | ⟨hc, hc'⟩
                  all_goals
                    go_wp2_with fail
                    go_ret2
                    exact ⟨rfl, BW⟩
              · obtain rfl : i = 2 := by omega
                have hq : (((b.drop 1).take 2).take 2) = (b.drop 1).take 2 := List.take_of_length_le (by simp; try omega)
                rw [hq] at HA ⊢
                have hr := HR.out
                rw [HA.out, if_pos rfl] at hr
                clear HR HFL hq
                generalize foldC (x - 224) ((b.drop 1).take 2) = s at *
                have HR2 := Lib.hid hr
                clear hr
                have h4 : s < 2048 ∨ (¬ s < 2048 ∧ 65535 < s) ∨ (¬ s < 2048 ∧ ¬ 65535 < s ∧ (55296 ≤ s ∧ s ≤ 57343)) ∨ (¬ s < 2048 ∧ ¬ 65535 < s ∧ ¬ (55296 ≤ s ∧ s ≤ 57343)) := by omega
                rcases h4 with h | ⟨h, h'⟩ | ⟨h, h', h''⟩ | ⟨h, h', h''⟩
                · have hr0 : R = (0, 0) := by rw [HR2.out, if_pos (.inl h)]
                  subst hr0
                  clear HR2
                  go_wp2_with (go_at_call 35; refine (surrogate_any _ _).mono ?_; rintro e w' ⟨rfl, rfl⟩)
                  go_ret2
                  exact ⟨rfl, BW⟩
                · have hr0 : R = (0, 0) := by rw [HR2.out, if_pos (.inr (.inl h'))]
                  subst hr0
                  clear HR2
                  go_wp2_with (go_at_call 35; refine (surrogate_any _ _).mono ?_; rintro e w' ⟨rfl, rfl⟩)
                  go_ret2
                  exact ⟨rfl, BW⟩
                · have hr0 : R = (0, 0) := by rw [HR2.out, if_pos (.inr (.inr h''))]
                  subst hr0
                  clear HR2
                  have hsu : surr (s : Int) = true := decide_eq_true (by omega)
                  clear h''
                  go_wp2_with (go_at_call 35; refine (surrogate_any _ _).mono ?_; rintro e w' ⟨rfl, rfl⟩)
                  go_ret2
                  exact ⟨rfl, BW⟩
                · have hr0 : R = ((s : Int), ((1 + 2 : Nat) : Int)) := by rw [HR2.out, if_neg (by omega)]
                  subst hr0
                  clear HR2
                  have hsu : surr (s : Int) = false := decide_eq_false (by omega)
                  clear h''
                  go_wp2_with (go_at_call 35; refine (surrogate_any _ _).mono ?_; rintro e w' ⟨rfl, rfl⟩)
                  go_quiet (fail)
                  go_wp2_with fail
                  go_ret2
                  exact ⟨rfl, belD BW _⟩
      · have hx1 : x < 224 ∨ (¬ x < 224 ∧ 239 < x) := by omega
        have HX := Lib.hid hx0
        clear hx0
        rcases hx1 with hx1 | ⟨hx1, hx2⟩
        all_goals
          first
          | (have hxi1 : (x : Int) < 224 := by omega)
          | (have hxi1 : ¬ (x : Int) < 224 := by omega
             have hxi2 : (239 : Int) < (x : Int) := by omega)
          have HX2 : Hid (x < 224 ∨ 239 < x) := by show _ ∨ _; omega
          go_wp2_with fail
          go_quiet (fail)
          go_wp2_with fail
          go_roundw
          case rel =>
            refine ⟨3, by go_num, by omega, ?_, belD hbx _⟩
            obtain ⟨h1, h2, h3, h4⟩ := HK.out
            have h5 := HX2.out
            exact ⟨fun h => by first | omega | exact h1 (by omega), fun h => by first | omega | exact h2 (by omega), fun h => by first | omega | exact h3 (by omega), fun h => by first | omega | exact h4 (by omega)⟩
          case measure => simp [intOf]
    · have ix := idx3
      have hw0 : IntKind.i64.wrap 4 = 4 := by rw [IntKind.wrap_i64]; decide
      have hw1 : IntKind.i64.wrap 18 = 18 := by rw [IntKind.wrap_i64]; decide
      have hw2 : IntKind.i64.wrap 244 = 244 := by rw [IntKind.wrap_i64]; decide
      have hbx : Below w.heap.size w (wo.alloc (.cells #[.int .i64 65536, .int .i64 1114111, .int .i64 240, .int .i64 3] 47)) := hB.alloc hsz _
      by_cases hx0 : 240 ≤ x ∧ x ≤ 244
      · obtain ⟨hxa, hxb⟩ := hx0
        have hxi : (240 : Int) ≤ (x : Int) := by omega
        have hxj : (x : Int) ≤ 244 := by omega
        have hr : R = formM 65536 1114111 240 3 x b := by
          obtain ⟨h1, h2, h3, h4⟩ := HK.out
          rw [HFM.out, if_neg (by have := h1 (by omega); omega), if_neg (by have := h2 (by omega); omega), if_neg (by have := h3 (by omega); omega), if_pos ⟨hxa, hxb⟩]
        by_cases hlen : b.length ≤ 3
        · have hr0 : R = (0, 0) := by rw [hr, formM, if_pos hlen]
          subst hr0
          clear hr
          have hli : (b.length : Int) ≤ 3 := by omega
          go_wp2_with fail
          go_quiet (fail)
          go_wp2_with fail
          go_ret2
          exact ⟨rfl, belD hbx _⟩
        · have HR : Hid (R = if ((b.drop 1).take 3).all contB then (if foldC (x - 240) ((b.drop 1).take 3) < 65536 ∨ 1114111 < foldC (x - 240) ((b.drop 1).take 3) ∨ (55296 ≤ foldC (x - 240) ((b.drop 1).take 3) ∧ foldC (x - 240) ((b.drop 1).take 3) ≤ 57343) then (0, 0) else ((foldC (x - 240) ((b.drop 1).take 3) : Int), ((1 + 3 : Nat) : Int))) else (0, 0)) := by
            show _ = _
            rw [hr, formM, if_neg hlen]
          clear hr
          have hli : (3 : Int) < (b.length : Int) := by omega
          have hlj : ¬ (b.length : Int) ≤ 3 := by omega
          have hlc : (4 : Int) ≤ (cap : Int) := by omega
          have hfl : ∀ i, foldC (x - 240) (((b.drop 1).take 3).take i) < 16777216 ∨ i ≥ 3 := by
            intro i
            by_cases hi : i < 3
            · left
              have h1 := foldC_lt (x - 240) (((b.drop 1).take 3).take i)
              have h2 : (((b.drop 1).take 3).take i).length ≤ 2 := by simp <;> omega
              have h3 : (x - 240 + 1) * 64 ^ (((b.drop 1).take 3).take i).length ≤ 128 * 64 ^ 2 := Nat.mul_le_mul (by omega) (Nat.pow_le_pow_right (by decide) h2)
              omega
            · right; omega
          have HFL := Lib.hid hfl
          clear hfl
          go_wp2_with fail
          go_quiet (fail)
          go_wp2_with fail
          all_goals
            obtain ⟨W, hW⟩ : ∃ W, W = (wo.alloc (.cells #[.int .i64 65536, .int .i64 1114111, .int .i64 240, .int .i64 3] 47)).drewN nq := ⟨_, rfl⟩
            rw [← hW]
            have BW : Below w.heap.size w W := by rw [hW]; exact belD hbx _
            have q0 : W.cell? ⟨wo.heap.size, 0, none⟩ = some (.int .i64 65536) := by rw [hW]; show (wo.alloc _).cell? _ = _; simp
            have q1 : W.cell? ⟨wo.heap.size, 1, none⟩ = some (.int .i64 1114111) := by rw [hW]; show (wo.alloc _).cell? _ = _; simp
            have q2 : W.cell? ⟨wo.heap.size, 2, none⟩ = some (.int .i64 240) := by rw [hW]; show (wo.alloc _).cell? _ = _; simp
            have q3 : W.cell? ⟨wo.heap.size, 3, none⟩ = some (.int .i64 3) := by rw [hW]; show (wo.alloc _).cell? _ = _; simp
            clear hW ix hbx
            go_loopw [7, 50] (fun sv iv wi => ∃ i : Nat, iv = .int .i64 (i : Int) ∧ sv = .int .i64 ((foldC (x - 240) (((b.drop 1).take 3).take i) : Nat) : Int) ∧ i ≤ 3 ∧ Hid ((((b.drop 1).take 3).take i).all contB = true) ∧ W = wi) (fun _ iv _ => 3 - (intOf iv).toNat)
            case atStart => exact ⟨0, rfl, congrArg (Value.int .i64) (by simp [foldC]; try omega), Nat.zero_le _, rfl, rfl⟩
            case round =>
              obtain ⟨i, rfl, rfl, hi, HA, rfl⟩ := hrel
              by_cases hil : i < 3
              · obtain ⟨b2, off2, he, hcx⟩ := ((hv.below BW).rd).cell (i := 1 + i) (u := vB b[1 + i]) (by rw [List.getElem?_map, List.getElem?_eq_getElem (by omega)]; rfl)
                cases he
                rw [← Nat.add_assoc] at hcx
                have hsn : ((b.drop 1).take 3).take (i + 1) = ((b.drop 1).take 3).take i ++ [b[1 + i]] := by rw [List.take_succ_eq_append_getElem (by simp; omega), List.getElem_take, List.getElem_drop]
                have hall : contB b[1 + i] = false → ((b.drop 1).take 3).all contB = false := fun h => by
                  rw [← List.take_append_drop (i + 1) ((b.drop 1).take 3), hsn, List.all_append, List.all_append, List.all_cons, h]
                  simp
                have hsa : contB b[1 + i] = true → (((b.drop 1).take 3).take (i + 1)).all contB = true := fun h => by rw [hsn, List.all_append, HA.out, List.all_cons, h]; rfl
                generalize b[1 + i] = c at *
                unfold vB at hcx
                have hfs := foldC_snoc (x - 240) (((b.drop 1).take 3).take i) c
                rw [← hsn] at hfs
                have HOR := Lib.hid (or6 (foldC (x - 240) (((b.drop 1).take 3).take i)) c (by rcases HFL.out i with h | h <;> omega))
                rw [← hfs] at HOR
                by_cases hc : 128 ≤ c.toNat ∧ c.toNat ≤ 191
                · have HS := Lib.hid (hsa (decide_eq_true hc))
                  have hc1 : ¬ (c.toNat : Int) < 128 := by omega
                  have hc2 : ¬ (191 : Int) < (c.toNat : Int) := by omega
                  clear hsn hall hsa hfs hc
                  generalize foldC (x - 240) (((b.drop 1).take 3).take i) = s at *
                  go_wp2_with fail
                  go_roundw
                  case rel => exact ⟨i + 1, by go_num, congrArg (Value.int .i64) HOR.out, by omega, HS.out, by trivial⟩
                  case measure => simp [intOf]; omega
                · have hr0 : R = (0, 0) := by rw [HR.out, hall (decide_eq_false hc)]; rfl
                  subst hr0
                  clear hsn hall hsa hfs HOR HR
                  have hc3 : c.toNat < 128 ∨ (¬ c.toNat < 128 ∧ 191 < c.toNat) := by omega
                  clear hc
                  rcases hc3 with hc | ⟨hc, hc'⟩
                  all_goals
                    go_wp2_with fail
                    go_ret2
                    exact ⟨rfl, BW⟩
              · obtain rfl : i = 3 := by omega
                have hq : (((b.drop 1).take 3).take 3) = (b.drop 1).take 3 := List.take_of_length_le (by simp; try omega)
                rw [hq] at HA ⊢
                have hr := HR.out
                rw [HA.out, if_pos rfl] at hr
                clear HR HFL hq
                generalize foldC (x - 240) ((b.drop 1).take 3) = s at *
                have HR2 := Lib.hid hr
                clear hr
                have h4 : s < 65536 ∨ (¬ s < 65536 ∧ 1114111 < s) ∨ (¬ s < 65536 ∧ ¬ 1114111 < s ∧ (55296 ≤ s ∧ s ≤ 57343)) ∨ (¬ s < 65536 ∧ ¬ 1114111 < s ∧ ¬ (55296 ≤ s ∧ s ≤ 57343)) := by omega
                rcases h4 with h | ⟨h, h'⟩ | ⟨h, h', h''⟩ | ⟨h, h', h''⟩
                · have hr0 : R = (0, 0) := by rw [HR2.out, if_pos (.inl h)]
                  subst hr0
                  clear HR2
                  go_wp2_with (go_at_call 35; refine (surrogate_any _ _).mono ?_; rintro e w' ⟨rfl, rfl⟩)
                  go_ret2
                  exact ⟨rfl, BW⟩
                · have hr0 : R = (0, 0) := by rw [HR2.out, if_pos (.inr (.inl h'))]
                  subst hr0
                  clear HR2
                  go_wp2_with (go_at_call 35; refine (surrogate_any _ _).mono ?_; rintro e w' ⟨rfl, rfl⟩)
                  go_ret2
                  exact ⟨rfl, BW⟩
                · exfalso; omega
                · have hr0 : R = ((s : Int), ((1 + 3 : Nat) : Int)) := by rw [HR2.out, if_neg (by omega)]
                  subst hr0
                  clear HR2
                  have hsu : surr (s : Int) = false := decide_eq_false (by omega)
                  clear h''
                  go_wp2_with (go_at_call 35; refine (surrogate_any _ _).mono ?_; rintro e w' ⟨rfl, rfl⟩)
                  go_quiet (fail)
                  go_wp2_with fail
                  go_ret2
                  exact ⟨rfl, belD BW _⟩
      · have hx1 : x < 240 ∨ (¬ x < 240 ∧ 244 < x) := by omega
        have HX := Lib.hid hx0
        clear hx0
        rcases hx1 with hx1 | ⟨hx1, hx2⟩
        all_goals
          first
          | (have hxi1 : (x : Int) < 240 := by omega)
          | (have hxi1 : ¬ (x : Int) < 240 := by omega
             have hxi2 : (244 : Int) < (x : Int) := by omega)
          have HX2 : Hid (x < 240 ∨ 244 < x) := by show _ ∨ _; omega
          go_wp2_with fail
          go_quiet (fail)
          go_wp2_with fail
          go_roundw
          case rel =>
            refine ⟨4, by go_num, by omega, ?_, belD hbx _⟩
            obtain ⟨h1, h2, h3, h4⟩ := HK.out
            have h5 := HX2.out
            exact ⟨fun h => by first | omega | exact h1 (by omega), fun h => by first | omega | exact h2 (by omega), fun h => by first | omega | exact h3 (by omega), fun h => by first | omega | exact h4 (by omega)⟩
          case measure => simp [intOf]
    · have hr : R = (0, 0) := by
        obtain ⟨h1, h2, h3, h4⟩ := HK.out
        rw [HFM.out, if_neg (by have := h1 (by omega); omega), if_neg (by have := h2 (by omega); omega), if_neg (by have := h3 (by omega); omega), if_neg (by have := h4 (by omega); omega)]
      subst hr
      go_wp2_with fail
      go_ret2
      exact ⟨rfl, hB⟩
end Go.Proofs.YtmofakcpldbbmaaDoor
