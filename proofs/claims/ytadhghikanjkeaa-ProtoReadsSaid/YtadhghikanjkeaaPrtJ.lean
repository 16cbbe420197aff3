/- Package proto: Decode. -/
import Derived.Test.YtadhghikanjkeaaPrtI
import Derived.Test.YtadhghikanjkeaaPrtE8
import Derived.Deep.RegionHeld3
import Derived.Deep.Cut
import Derived.Deep.CutRange
import Derived.Laws.Cover3
namespace Go.Proofs.Ytadhghikanjkeaa
open Go.RowKit

/-- The results: an aggregate that lies in a block, then two slots. -/
theorem results_row_tmp2 {P : Program} {fn : Func} {p u u' : Tmp} {ty : TypeId} (h : fn.results = #[.cell p ty, .tmp u, .tmp u']) (tmps : Array Value) (w : World) (g : Nat) (t : TypeId) (cs : Array Value) (fr : Nat × Nat) (d : TypeDesc)
    (hp : tmps.getD p undef = .pointer (some ⟨g, 0, none⟩)) (hg : w.heap[g]? = some (.cells cs t fr))
    (hu : P.underlying ty = some d) (hd : (match d with | .struct _ | .array _ _ => true | _ => false) = true) (hi : (P.info? ty).map (·.size) = some cs.size) :
    (results fn tmps).run P w = .ok (.tuple #[.agg cs, tmps.getD u undef, tmps.getD u' undef]) w := by
  have hp' : tmps[p]?.getD undef = .pointer (some ⟨g, 0, none⟩) := by simpa using hp
  simp only [results, h]
  simp [hp', asAddr, run_loadVar_row w g t ty cs fr d hg hu hd hi, Result.andThen]

/-- Decode's answer. -/
def DePost (w : World) (b : List UInt8) (en : Ending) (w' : World) : Prop :=
  ∃ x, en = .returned (.tuple #[x, .int .i64 ((decP b).2.1 : Int), .int .i64 (decP b).2.2]) ∧ MsgAt w w' (decP b).1 x ∧ Below w.heap.size w w'

theorem leVal_snoc (l : List UInt8) (c : UInt8) : leVal (l ++ [c]) = leVal l + c.toNat * 256 ^ l.length := by
  induction l with
  | nil => simp [leVal]
  | cons d l ih =>
    rw [List.cons_append, leVal, ih, leVal, List.length_cons, Nat.pow_succ]
    simp only [Nat.mul_add, Nat.add_assoc]
    congr 2
    rw [Nat.mul_comm 256, Nat.mul_assoc]

theorem i64_or_nat (a b : Nat) (ha : a < 4611686018427387904) (hb : b < 4611686018427387904) : bits .or .i64 (a : Int) (b : Int) = ((a ||| b : Nat) : Int) := by
  have hx : a ||| b < 2 ^ 62 := Nat.or_lt_two_pow (by omega) (by omega)
  have h1 : (BitVec.ofInt 64 (a : Int)).toNat = a := by
    rw [BitVec.ofInt_natCast, BitVec.toNat_ofNat]; exact Nat.mod_eq_of_lt (by omega)
  have h2 : (BitVec.ofInt 64 (b : Int)).toNat = b := by
    rw [BitVec.ofInt_natCast, BitVec.toNat_ofNat]; exact Nat.mod_eq_of_lt (by omega)
  show IntKind.i64.wrap ((BitVec.ofInt 64 (a : Int) ||| BitVec.ofInt 64 (b : Int)).toNat : Int) = _
  rw [BitVec.toNat_or, h1, h2, IntKind.wrap_i64]
  omega
theorem or_low (l c i : Nat) (hi : i < 4) (hl : l < 256 ^ i) (hc : c < 256) : bits BinOp.or .i64 (l : Int) (wrap64 ((c : Int) * 2 ^ (8 * i))) = ((l + c * 256 ^ i : Nat) : Int) := by
  have e : (256 : Nat) ^ i = 2 ^ (8 * i) := by rw [show (256 : Nat) = 2 ^ 8 from rfl, ← Nat.pow_mul]
  have h5 : (2 : Nat) ^ (8 * i) ≤ 2 ^ 24 := Nat.pow_le_pow_right (by omega) (by omega)
  have h6 := Nat.mul_le_mul (Nat.le_of_lt_succ hc) h5
  rw [e] at hl
  have e2 : ((c : Int) * 2 ^ (8 * i)) = ((c * 2 ^ (8 * i) : Nat) : Int) := by simp
  rw [e2, w64 _ (by omega), i64_or_nat _ _ (by omega) (by omega), Nat.or_comm, nat_join (8 * i) _ _ (by simp) hl, Nat.add_comm, e]
theorem eight (l : List UInt8) (h : l.length = 8) : ∃ e0 e1 e2 e3 e4 e5 e6 e7, l = [e0, e1, e2, e3, e4, e5, e6, e7] := by
  match l, h with
  | [e0, e1, e2, e3, e4, e5, e6, e7], _ => exact ⟨_, _, _, _, _, _, _, _, rfl⟩

theorem ne8 (l : List UInt8) (e0 e1 e2 e3 e4 e5 e6 e7 : UInt8) (n0 n1 n2 n3 n4 n5 n6 n7 : Int)
    (h : l.map vB = [.int .u8 n0, .int .u8 n1, .int .u8 n2, .int .u8 n3, .int .u8 n4, .int .u8 n5, .int .u8 n6, .int .u8 n7]) :
    (!decide ((e0.toNat : Int) = n0) || (!decide ((e1.toNat : Int) = n1) || (!decide ((e2.toNat : Int) = n2) || (!decide ((e3.toNat : Int) = n3) || (!decide ((e4.toNat : Int) = n4) || (!decide ((e5.toNat : Int) = n5) || (!decide ((e6.toNat : Int) = n6) || !decide ((e7.toNat : Int) = n7)))))))) = decide (l ≠ [e0, e1, e2, e3, e4, e5, e6, e7]) := by
  obtain ⟨x0, x1, x2, x3, x4, x5, x6, x7, rfl⟩ := eight l (by have := congrArg List.length h; simpa using this)
  simp only [List.map_cons, List.map_nil, vB, List.cons.injEq, Value.int.injEq, true_and, and_true] at h
  obtain ⟨rfl, rfl, rfl, rfl, rfl, rfl, rfl, rfl⟩ := h
  have k : ∀ a b : UInt8, ((a.toNat : Int) = (b.toNat : Int)) ↔ b = a := fun a b => by rw [Int.natCast_inj, UInt8.toNat_inj, eq_comm]
  simp only [k, ne_eq, List.cons.injEq, and_true, Bool.decide_and, decide_not, Bool.not_and]

theorem rvCore {W : World} {g off cb : Nat} {b : List UInt8} (h : Rv W (.slice (some ⟨g, off, none⟩) b.length cb) b.length (b.map vB)) (p k : Nat) (hp : p + k ≤ b.length) (hc : p < cb) :
    Rv W (.slice (some ⟨g, off + p, none⟩) k (cb - p)) k (((b.drop p).take k).map vB) := by
  obtain ⟨a', c', e, _, r⟩ := h.sliced 1 p (p + k) (by omega) hp
  cases e
  have ea : (⟨g, off, none⟩ : Addr).add p = ⟨g, off + p, none⟩ := by unfold Addr.add; split <;> simp_all
  rw [if_neg (by omega), Nat.add_sub_cancel_left, Nat.mul_one, Nat.mul_one, Option.map_some, ea] at r
  rw [List.map_take, List.map_drop]
  exact r

/-- The result's block, still zero. -/
structure DeI (w W : World) : Prop where
  res : W.heap[w.heap.size]? = some (msgO 0 0 0 0 (.slice none 0 0) (.slice none 0 0))
  bel : Below w.heap.size w W
theorem DeI.start (w : World) : DeI w (w.alloc (msgO 0 0 0 0 (.slice none 0 0) (.slice none 0 0))) := ⟨World.alloc_heap_new w _, (Below.refl _ w).alloc (Nat.le_refl _) _⟩
theorem DeI.later {w W W' : World} (h : DeI w W) (B : Below W.heap.size W W') : DeI w W' :=
  ⟨(B.block _ (Array.getElem?_eq_some_iff.1 h.res).1).trans h.res, h.bel.trans (B.mono h.bel.size)⟩
theorem DeI.drew {w W : World} (h : DeI w W) : DeI w W.drew := ⟨h.res, h.bel.drew⟩

set_option maxRecDepth 20000 in
set_option maxHeartbeats 1000000 in
theorem decode_any (ab : Option Addr) (cb : Nat) (b : List UInt8) (w : World) (hb : Rv w (.slice ab b.length cb) b.length (b.map vB)) (hl : b.length ≤ 100000000) :
    Calls Try.prog 15 #[.slice ab b.length cb] w (DePost w b) := by
  go_enter Try.func15, Try.ntmps15
  by_cases h12 : b.length < 12
  · have hd : decP b = (Msg.zero, 0, 3) := by unfold decP; rw [if_pos h12]
    have HD := Lib.hid hd
    clear hd
    have h12i : (b.length : Int) < 12 := by omega
    have hr := World.alloc_heap_new w (.cells #[.int .i64 0, .int .i64 0, .int .i64 0, .int .i64 0, .slice none 0 0, .slice none 0 0] 33)
    have Z : M6 (w.alloc (.cells #[.int .i64 0, .int .i64 0, .int .i64 0, .int .i64 0, .slice none 0 0, .slice none 0 0] 33)) w.heap.size 0 0 0 0 (.slice none 0 0) (.slice none 0 0) := ⟨hr⟩
    have z0 := Z.k0
    have z1 := Z.k1
    have z2 := Z.k2
    have z3 := Z.k3
    have z4 := Z.k4
    have z5 := Z.k5
    have zf := fun j => Z.fz j
    have hB := (Below.refl _ w).alloc (Nat.le_refl _) (.cells #[.int .i64 0, .int .i64 0, .int .i64 0, .int .i64 0, .slice none 0 0, .slice none 0 0] 33)
    have HR := Lib.hid hr
    clear Z hr
    go_wp2_with fail
    refine bodyPost_ret (results_row_tmp2 rfl _ _ w.heap.size _ _ _ _ rfl HR.out rfl rfl rfl) rfl ?_
    unfold DePost
    rw [HD.out]
    exact ⟨_, rfl, MsgAt.zero _ _, hB⟩
  · have h12i : ¬ (b.length : Int) < 12 := by omega
    go_wp2_with fail
    have I0 := DeI.start w
    unfold msgO at I0
    go_loopw [5, 15] (fun nv iv wr => ∃ i : Nat, iv = .int .i64 (i : Int) ∧ i ≤ 4 ∧ nv = .int .i64 (leVal (b.take i) : Int) ∧ DeI w wr) (fun _ iv _ => 4 - (intOf iv).toNat)
    case atStart => exact ⟨0, by first | rfl | trivial, by omega, by rw [List.take_zero]; rfl, I0⟩
    case round =>
      obtain ⟨i, rfl, hi, rfl, B⟩ := hrel
      have hRv := hb.below B.bel
      by_cases hlt : i < 4
      · have hib : i < b.length := by omega
        obtain ⟨g, off, rfl, hcell⟩ := hRv.rd.cell (show (b.map vB)[i]? = some (vB b[i]) by rw [List.getElem?_map, List.getElem?_eq_getElem hib]; rfl)
        have htk : b.take (i + 1) = b.take i ++ [b[i]] := List.take_succ_eq_append_getElem hib
        have hlv := leVal_lt (b.take i)
        have hln : (b.take i).length = i := by rw [List.length_take]; omega
        rw [hln] at hlv
        have hnx : leVal (b.take (i + 1)) = leVal (b.take i) + b[i].toNat * 256 ^ i := by rw [htk, leVal_snoc, hln]
        have hc256 := b[i].toNat_lt
        generalize b[i] = c at *
        have HNX := Lib.hid hnx
        clear hnx htk
        generalize hN : leVal (b.take i) = N at *
        unfold vB at hcell
        go_wp2_with fail
        refine ⟨⟨i + 1, by simp, by omega, ?_, B⟩, by simp [intOf]; omega⟩
        rw [HNX.out, or_low N c.toNat i hlt hlv hc256]
      · obtain rfl : i = 4 := by omega
        obtain ⟨N, hN⟩ : ∃ N, leVal (b.take 4) = N := ⟨_, rfl⟩
        have hN32 : N < 4294967296 := by
          have := leVal_lt (b.take 4)
          rw [hN, List.length_take] at this
          have e : min 4 b.length = 4 := by omega
          rw [e] at this
          omega
        obtain ⟨e0, e1, e2, e3, e4, e5, e6, e7, he⟩ := eight ((b.drop 4).take 8) (by rw [List.length_take, List.length_drop]; omega)
        obtain ⟨n0, n1, n2, n3, n4, n5, n6, n7, hl8⟩ := low8 (sumI lenL [(N : Int)]).toNat
        have hget : ∀ j, j < 8 → b[4 + j]? = [e0, e1, e2, e3, e4, e5, e6, e7][j]? := by
          intro j hj
          rw [← he, List.getElem?_take_of_lt hj, List.getElem?_drop]
        obtain ⟨g, off, rfl, hcell⟩ := hRv.rd.cell (show (b.map vB)[0]? = some (vB b[0]) by rw [List.getElem?_map, List.getElem?_eq_getElem (by omega)]; rfl)
        have hS8 : ∀ W', Rv W' (.slice (some ⟨g, off, none⟩) b.length cb) b.length (b.map vB) → ∀ j u, j < 8 → [e0, e1, e2, e3, e4, e5, e6, e7][j]? = some u → W'.cell? ⟨g, off + 4 + j, none⟩ = some (vB u) := by
          intro W' hW j u hj hu
          have h := hget j hj
          rw [hu] at h
          obtain ⟨g', off', e', hc'⟩ := hW.rd.cell (show (b.map vB)[4 + j]? = some (vB u) by rw [List.getElem?_map, h]; rfl)
          cases e'
          rw [Nat.add_assoc]
          exact hc'
        have HS8 : ∀ W', Rv W' (.slice (some ⟨g, off, none⟩) b.length cb) b.length (b.map vB) → W'.cell? ⟨g, off + 4, none⟩ = some (.int .u8 (e0.toNat : Int)) ∧ W'.cell? ⟨g, off + 4 + 1, none⟩ = some (.int .u8 (e1.toNat : Int)) ∧ W'.cell? ⟨g, off + 4 + 2, none⟩ = some (.int .u8 (e2.toNat : Int)) ∧ W'.cell? ⟨g, off + 4 + 3, none⟩ = some (.int .u8 (e3.toNat : Int)) ∧ W'.cell? ⟨g, off + 4 + 4, none⟩ = some (.int .u8 (e4.toNat : Int)) ∧ W'.cell? ⟨g, off + 4 + 5, none⟩ = some (.int .u8 (e5.toNat : Int)) ∧ W'.cell? ⟨g, off + 4 + 6, none⟩ = some (.int .u8 (e6.toNat : Int)) ∧ W'.cell? ⟨g, off + 4 + 7, none⟩ = some (.int .u8 (e7.toNat : Int)) := fun W' h =>
          ⟨hS8 W' h 0 e0 (by decide) rfl, hS8 W' h 1 e1 (by decide) rfl, hS8 W' h 2 e2 (by decide) rfl, hS8 W' h 3 e3 (by decide) rfl, hS8 W' h 4 e4 (by decide) rfl, hS8 W' h 5 e5 (by decide) rfl, hS8 W' h 6 e6 (by decide) rfl, hS8 W' h 7 e7 (by decide) rfl⟩
        have HS := Lib.hid HS8
        have HE := Lib.hid he
        have HL8 := Lib.hid hl8
        clear hS8 HS8 he hl8 hget hcell
        rw [hN]
        have HN := Lib.hid hN
        clear hN
        have hcap := hRv.len
        have hcb : b.length ≤ cb := by obtain ⟨_, _, ee, hx, _⟩ := hRv; cases ee; exact hx
        have hRd := hRv.below ((Below.refl wr.heap.size wr).drew)
        have h88 := fun (W : World) => eq8 W e0.toNat e1.toNat e2.toNat e3.toNat e4.toNat e5.toNat e6.toNat e7.toNat n0 n1 n2 n3 n4 n5 n6 n7
        have hcb12 : 12 ≤ cb := by omega
        have hcbi : (12 : Int) ≤ (cb : Int) := by omega
        have hat : ∀ W, (Instr.arrayAt 82 (.slice (some ⟨g, off + 4, none⟩) 8 (cb - 4))).run Try.prog W = .ok (.pointer (some ⟨g, off + 4, none⟩)) W := fun W => run_arrayAt W _ _ 8 _ _ _ Try.underlying82 (Nat.le_refl 8)
        have Bd := B.drew
        go_upto_region 9 with fail
        go_cut [35] from 29 to 35 (fun sv wx => sv = .bool (decide (lenH N ≠ (b.drop 4).take 8)) ∧ DeI w wx)
        case first =>
          go_region_held3 (fun W' => W'.cell? ⟨g, off + 4, none⟩ = some (.int .u8 (e0.toNat : Int)) ∧ W'.cell? ⟨g, off + 4 + 1, none⟩ = some (.int .u8 (e1.toNat : Int)) ∧ W'.cell? ⟨g, off + 4 + 2, none⟩ = some (.int .u8 (e2.toNat : Int)) ∧ W'.cell? ⟨g, off + 4 + 3, none⟩ = some (.int .u8 (e3.toNat : Int)) ∧ W'.cell? ⟨g, off + 4 + 4, none⟩ = some (.int .u8 (e4.toNat : Int)) ∧ W'.cell? ⟨g, off + 4 + 5, none⟩ = some (.int .u8 (e5.toNat : Int)) ∧ W'.cell? ⟨g, off + 4 + 6, none⟩ = some (.int .u8 (e6.toNat : Int)) ∧ W'.cell? ⟨g, off + 4 + 7, none⟩ = some (.int .u8 (e7.toNat : Int)))
            (first | exact HS.out _ R3 | exact HS.out _ hRd)
            (first
              | (go_at_call 35; refine (lengthHash_any (N : Int) _).mono ?_; rintro e w3 ⟨rfl, h3⟩; unfold lenH; rw [HL8.out]; have R3 := hRd.below h3; have I3 := Bd.later h3))
          all_goals
            go_wp2_with fail
            go_meet
            refine ⟨?_, I3⟩
            rw [ne8 _ _ _ _ _ _ _ _ _ _ _ _ _ _ _ _ _ HL8.out, ← HE.out]
            rfl
        case rest =>
        obtain ⟨rfl, I2⟩ := hcut
        clear HS HE HL8 hRd Bd hat h88 B hRv
        by_cases hne : lenH N ≠ (b.drop 4).take 8
        · rw [decide_eq_true hne]
          have hd : decP b = (Msg.zero, 0, 13) := by
            have h := HN.out
            unfold decP
            simp only [h]
            rw [if_neg h12, if_pos hne]
          have HDE := Lib.hid hd
          clear hd hne
          have Z : M6 wc w.heap.size 0 0 0 0 (.slice none 0 0) (.slice none 0 0) := ⟨I2.res⟩
          have z0 := Z.k0
          have z1 := Z.k1
          have z2 := Z.k2
          have z3 := Z.k3
          have z4 := Z.k4
          have z5 := Z.k5
          have zf := fun j => Z.fz j
          have HR := Lib.hid I2.res
          have hB := I2.bel
          clear Z
          go_wp2_with fail
          refine bodyPost_ret (results_row_tmp2 rfl _ _ w.heap.size _ _ _ _ rfl (set6 HR.out _ _ _ _ _ _) rfl rfl rfl) rfl ?_
          unfold DePost
          rw [HDE.out]
          exact ⟨_, rfl, MsgAt.zero _ _, bel6 hB (Nat.le_refl _) _ _ _ _ _ _⟩
        rw [decide_eq_false hne]
        have hne := Classical.not_not.1 hne
        by_cases hbig : 1048576 < N
        · have hbigi : (1048576 : Int) < (N : Int) := by omega
          have hd : decP b = (Msg.zero, 0, 4) := by
            have h := HN.out
            unfold decP
            simp only [h]
            rw [if_neg h12, if_neg (fun h => h hne), if_pos hbig]
          have HDE := Lib.hid hd
          clear hd hne
          have Z : M6 wc w.heap.size 0 0 0 0 (.slice none 0 0) (.slice none 0 0) := ⟨I2.res⟩
          have z0 := Z.k0
          have z1 := Z.k1
          have z2 := Z.k2
          have z3 := Z.k3
          have z4 := Z.k4
          have z5 := Z.k5
          have zf := fun j => Z.fz j
          have HR := Lib.hid I2.res
          have hB := I2.bel
          clear Z
          go_wp2_with fail
          refine bodyPost_ret (results_row_tmp2 rfl _ _ w.heap.size _ _ _ _ rfl (set6 HR.out _ _ _ _ _ _) rfl rfl rfl) rfl ?_
          unfold DePost
          rw [HDE.out]
          exact ⟨_, rfl, MsgAt.zero _ _, bel6 hB (Nat.le_refl _) _ _ _ _ _ _⟩
        have hbigi : ¬ (1048576 : Int) < (N : Int) := by omega
        by_cases hsz : b.length < N + 20
        · have hszi : (b.length : Int) < 12 + (N : Int) + 8 := by omega
          have hd : decP b = (Msg.zero, 0, 3) := by
            have h := HN.out
            unfold decP
            simp only [h]
            rw [if_neg h12, if_neg (fun h => h hne), if_neg hbig, if_pos hsz]
          have HDE := Lib.hid hd
          clear hd hne
          have Z : M6 wc w.heap.size 0 0 0 0 (.slice none 0 0) (.slice none 0 0) := ⟨I2.res⟩
          have z0 := Z.k0
          have z1 := Z.k1
          have z2 := Z.k2
          have z3 := Z.k3
          have z4 := Z.k4
          have z5 := Z.k5
          have zf := fun j => Z.fz j
          have HR := Lib.hid I2.res
          have hB := I2.bel
          clear Z
          go_wp2_with fail
          refine bodyPost_ret (results_row_tmp2 rfl _ _ w.heap.size _ _ _ _ rfl (set6 HR.out _ _ _ _ _ _) rfl rfl rfl) rfl ?_
          unfold DePost
          rw [HDE.out]
          exact ⟨_, rfl, MsgAt.zero _ _, bel6 hB (Nat.le_refl _) _ _ _ _ _ _⟩
        have hszi : ¬ (b.length : Int) < 12 + (N : Int) + 8 := by omega
        have hszi2 : (12 : Int) + (N : Int) ≤ (cb : Int) := by omega
        have hszi3 : (12 : Int) + (N : Int) + 8 ≤ (cb : Int) := by omega
        obtain ⟨c, hc⟩ : ∃ c, (b.drop 12).take N = c := ⟨_, rfl⟩
        have hcl : c.length = N := by rw [← hc, List.length_take, List.length_drop]; omega
        subst hcl
        obtain ⟨d0, d1, d2, d3, d4, d5, d6, d7, he⟩ := eight ((b.drop (c.length + 12)).take 8) (by rw [List.length_take, List.length_drop]; omega)
        obtain ⟨p0, p1, p2, p3, p4, p5, p6, p7, hl8⟩ := low8 (bytesB msgL c).toNat
        have hget : ∀ j, j < 8 → b[12 + c.length + j]? = [d0, d1, d2, d3, d4, d5, d6, d7][j]? := by
          intro j hj
          rw [← he, List.getElem?_take_of_lt hj, List.getElem?_drop, Nat.add_comm c.length]
        have hS8 : ∀ W', Rv W' (.slice (some ⟨g, off, none⟩) b.length cb) b.length (b.map vB) → ∀ j u, j < 8 → [d0, d1, d2, d3, d4, d5, d6, d7][j]? = some u → W'.cell? ⟨g, off + (12 + c.length) + j, none⟩ = some (vB u) := by
          intro W' hW j u hj hu
          have h := hget j hj
          rw [hu] at h
          obtain ⟨g', off', e', hc'⟩ := hW.rd.cell (show (b.map vB)[12 + c.length + j]? = some (vB u) by rw [List.getElem?_map, h]; rfl)
          cases e'
          rw [Nat.add_assoc]
          exact hc'
        have HS8 : ∀ W', Rv W' (.slice (some ⟨g, off, none⟩) b.length cb) b.length (b.map vB) → W'.cell? ⟨g, off + (12 + c.length), none⟩ = some (.int .u8 (d0.toNat : Int)) ∧ W'.cell? ⟨g, off + (12 + c.length) + 1, none⟩ = some (.int .u8 (d1.toNat : Int)) ∧ W'.cell? ⟨g, off + (12 + c.length) + 2, none⟩ = some (.int .u8 (d2.toNat : Int)) ∧ W'.cell? ⟨g, off + (12 + c.length) + 3, none⟩ = some (.int .u8 (d3.toNat : Int)) ∧ W'.cell? ⟨g, off + (12 + c.length) + 4, none⟩ = some (.int .u8 (d4.toNat : Int)) ∧ W'.cell? ⟨g, off + (12 + c.length) + 5, none⟩ = some (.int .u8 (d5.toNat : Int)) ∧ W'.cell? ⟨g, off + (12 + c.length) + 6, none⟩ = some (.int .u8 (d6.toNat : Int)) ∧ W'.cell? ⟨g, off + (12 + c.length) + 7, none⟩ = some (.int .u8 (d7.toNat : Int)) := fun W' h =>
          ⟨hS8 W' h 0 d0 (by decide) rfl, hS8 W' h 1 d1 (by decide) rfl, hS8 W' h 2 d2 (by decide) rfl, hS8 W' h 3 d3 (by decide) rfl, hS8 W' h 4 d4 (by decide) rfl, hS8 W' h 5 d5 (by decide) rfl, hS8 W' h 6 d6 (by decide) rfl, hS8 W' h 7 d7 (by decide) rfl⟩
        have HS := Lib.hid HS8
        have HE := Lib.hid he
        have HL8 := Lib.hid hl8
        have HC := Lib.hid hc
        clear hS8 HS8 he hl8 hget hc
        have h88 := fun (W : World) => eq8 W d0.toNat d1.toNat d2.toNat d3.toNat d4.toNat d5.toNat d6.toNat d7.toNat p0 p1 p2 p3 p4 p5 p6 p7
        have hnn : 12 + c.length + 8 - (12 + c.length) = 8 := by omega
        have hat : ∀ W, (Instr.arrayAt 82 (.slice (some ⟨g, off + (12 + c.length), none⟩) 8 (cb - (12 + c.length)))).run Try.prog W = .ok (.pointer (some ⟨g, off + (12 + c.length), none⟩)) W := fun W => run_arrayAt W _ _ 8 _ _ _ Try.underlying82 (Nat.le_refl 8)
        have hRd := (hb.below I2.bel).below ((Below.refl wc.heap.size wc).drew)
        have hRc : ∀ W, Rv W (.slice (some ⟨g, off, none⟩) b.length cb) b.length (b.map vB) → Rv W (.slice (some ⟨g, off + 12, none⟩) c.length (cb - 12)) c.length (c.map vB) := fun W h => by
          have := rvCore h 12 c.length (by omega) (by omega)
          rwa [HC.out] at this
        have HRC := Lib.hid hRc
        clear hRc
        have Bd := I2.drew
        go_upto_region 17 with fail
        rw [Nat.add_sub_cancel_left]
        have hs1 : (0 : Int) ≤ 12 + (c.length : Int) := by omega
        have hs2 : (12 : Int) + (c.length : Int) ≤ 12 + (c.length : Int) + 8 := by omega
        have hs3 : (0 : Int) ≤ 12 + (c.length : Int) + 8 := by omega
        have hs4 : ((12 : Int) + (c.length : Int)).toNat = 12 + c.length := by omega
        have hs5 : ((12 : Int) + (c.length : Int) + 8).toNat = 12 + c.length + 8 := by omega
        have hs6 : ¬ cb = 12 + c.length := by omega
        have hs7 : IntKind.i64.wrap ((12 : Int) + (c.length : Int)) = 12 + (c.length : Int) := by rw [IntKind.wrap_i64]; omega
        have hs8 : wrap64 ((12 : Int) + (c.length : Int)) = 12 + (c.length : Int) := w64 _ (by omega)
        go_cut [61] from 52 to 61 (fun sv wx => sv = .bool (decide (coreH c ≠ (b.drop (c.length + 12)).take 8)) ∧ DeI w wx)
        case first =>
          go_region_held3 (fun W' => W'.cell? ⟨g, off + (12 + c.length), none⟩ = some (.int .u8 (d0.toNat : Int)) ∧ W'.cell? ⟨g, off + (12 + c.length) + 1, none⟩ = some (.int .u8 (d1.toNat : Int)) ∧ W'.cell? ⟨g, off + (12 + c.length) + 2, none⟩ = some (.int .u8 (d2.toNat : Int)) ∧ W'.cell? ⟨g, off + (12 + c.length) + 3, none⟩ = some (.int .u8 (d3.toNat : Int)) ∧ W'.cell? ⟨g, off + (12 + c.length) + 4, none⟩ = some (.int .u8 (d4.toNat : Int)) ∧ W'.cell? ⟨g, off + (12 + c.length) + 5, none⟩ = some (.int .u8 (d5.toNat : Int)) ∧ W'.cell? ⟨g, off + (12 + c.length) + 6, none⟩ = some (.int .u8 (d6.toNat : Int)) ∧ W'.cell? ⟨g, off + (12 + c.length) + 7, none⟩ = some (.int .u8 (d7.toNat : Int)))
            (first | exact HS.out _ R3 | exact HS.out _ hRd)
            (first
              | (go_at_call 36; refine (coreHash_any (some ⟨g, off + 12, none⟩) (cb - 12) c _ (HRC.out _ hRd) (by omega)).mono ?_; rintro e w3 ⟨rfl, h3⟩; unfold coreH; rw [HL8.out]; have R3 := hRd.below h3; have I3 := Bd.later h3))
          all_goals
            go_wp2_with fail
            go_meet
            refine ⟨?_, I3⟩
            rw [ne8 _ _ _ _ _ _ _ _ _ _ _ _ _ _ _ _ _ HL8.out, ← HE.out]
            rfl
        case rest =>
        rename World => wq
        obtain ⟨rfl, I4⟩ := hcut
        clear HS HE HL8 hRd Bd hat h88 I2
        by_cases hnh : coreH c ≠ (b.drop (c.length + 12)).take 8
        · rw [decide_eq_true hnh]
          have hd : decP b = (Msg.zero, 0, 13) := by
            have h := HN.out
            unfold decP
            simp only [h]
            rw [if_neg h12, if_neg (fun h => h hne), if_neg hbig, if_neg hsz, HC.out, if_pos hnh]
          have HDE := Lib.hid hd
          clear hd hne hnh
          have Z : M6 wq w.heap.size 0 0 0 0 (.slice none 0 0) (.slice none 0 0) := ⟨I4.res⟩
          have z0 := Z.k0
          have z1 := Z.k1
          have z2 := Z.k2
          have z3 := Z.k3
          have z4 := Z.k4
          have z5 := Z.k5
          have zf := fun j => Z.fz j
          have HR := Lib.hid I4.res
          have hB := I4.bel
          clear Z
          go_wp2_with fail
          refine bodyPost_ret (results_row_tmp2 rfl _ _ w.heap.size _ _ _ _ rfl (set6 HR.out _ _ _ _ _ _) rfl rfl rfl) rfl ?_
          unfold DePost
          rw [HDE.out]
          exact ⟨_, rfl, MsgAt.zero _ _, bel6 hB (Nat.le_refl _) _ _ _ _ _ _⟩
        rw [decide_eq_false hnh]
        have hnh := Classical.not_not.1 hnh
        have hd : decP b = match decC c with | none => (Msg.zero, 0, 2) | some m => (m, c.length + 20, 0) := by
          have h := HN.out
          unfold decP
          simp only [h]
          rw [if_neg h12, if_neg (fun h => h hne), if_neg hbig, if_neg hsz, HC.out, if_neg (fun h => h hnh)]
          rfl
        have HRB := HRC.out _ (hb.below I4.bel)
        have hDC := decCore_any (some ⟨g, off + 12, none⟩) (cb - 12) c _ HRB (by omega)
        unfold DcPost at hDC
        have key : (∃ m, decD c = (m, 0) ∧ decP b = (m, c.length + 20, 0)) ∨ (decD c = (Msg.zero, 2) ∧ decP b = (Msg.zero, 0, 2)) := by
          rw [hd]
          unfold decD
          cases decC c with
          | none => exact .inr ⟨rfl, rfl⟩
          | some m => exact .inl ⟨m, rfl, rfl⟩
        clear hd hne hnh
        rcases key with ⟨m, hk1, hk2⟩ | ⟨hk1, hk2⟩
        · rw [hk1] at hDC
          have HDE := Lib.hid hk2
          have HDC := Lib.hid hDC
          clear hDC hk1 hk2 HRB HRC HC HN hs1 hs2 hs3 hs4 hs5 hs6 hs7 hs8 hnn
          go_wp2_with fail
          refine HDC.out.mono ?_
          rintro e w5 ⟨x, rfl, ⟨a1, a2, c1, c2, rfl, M5, l1, l2⟩, B5⟩
          have I5 := I4.later B5
          have I6 := I5.later ((Below.refl w5.heap.size w5).alloc (Nat.le_refl _) (.cells #[.int .i64 m.k, .int .i64 m.c, .int .i64 m.v, .int .i64 m.o, .slice a1 m.body.length c1, .slice a2 m.fnd.length c2] 33))
          have sz6 : (w5.alloc (.cells #[.int .i64 m.k, .int .i64 m.c, .int .i64 m.v, .int .i64 m.o, .slice a1 m.body.length c1, .slice a2 m.fnd.length c2] 33)).heap.size = w5.heap.size + 1 := World.size_alloc _ _
          have rb := M5.body.below ((Below.refl w5.heap.size w5).alloc (Nat.le_refl _) (.cells #[.int .i64 m.k, .int .i64 m.c, .int .i64 m.v, .int .i64 m.o, .slice a1 m.body.length c1, .slice a2 m.fnd.length c2] 33))
          have rf := M5.fnd.below ((Below.refl w5.heap.size w5).alloc (Nat.le_refl _) (.cells #[.int .i64 m.k, .int .i64 m.c, .int .i64 m.v, .int .i64 m.o, .slice a1 m.body.length c1, .slice a2 m.fnd.length c2] 33))
          have lq := Array.getElem?_eq_some_iff.1 I4.res |>.1
          clear M5 B5 I5 HDC
          have Z : M6 (w5.alloc (.cells #[.int .i64 m.k, .int .i64 m.c, .int .i64 m.v, .int .i64 m.o, .slice a1 m.body.length c1, .slice a2 m.fnd.length c2] 33)) w.heap.size 0 0 0 0 (.slice none 0 0) (.slice none 0 0) := ⟨I6.res⟩
          have z0 := Z.k0
          have z1 := Z.k1
          have z2 := Z.k2
          have z3 := Z.k3
          have z4 := Z.k4
          have z5 := Z.k5
          have zf := fun j => Z.fz j
          have HR := Lib.hid I6.res
          have hB := I6.bel
          have HZ := Lib.hid sz6
          clear Z sz6
          unfold msgV
          go_wp2_with fail
          refine bodyPost_ret (results_row_tmp2 rfl _ _ w.heap.size _ _ _ _ rfl (set6 HR.out _ _ _ _ _ _) rfl rfl rfl) rfl ?_
          unfold DePost
          rw [HDE.out]
          refine ⟨_, ?_, ⟨a1, a2, c1, c2, rfl, ⟨rvFar rb (fun k hk => far6 hk _ _ _ _ _ _) (fun e => ?_), rvFar rf (fun k hk => far6 hk _ _ _ _ _ _) (fun e => ?_)⟩, fun g hg => ?_, fun g hg => ?_⟩, bel6 hB (Nat.le_refl _) _ _ _ _ _ _⟩
          · show Ending.returned (.tuple #[_, .int .i64 (12 + (c.length : Int) + 8), .int .i64 0]) = _
            have : (12 + (c.length : Int) + 8) = ((c.length + 20 : Nat) : Int) := by omega
            rw [this]
            rfl
          · have := (l1 _ e).1; omega
          · have := (l2 _ e).1; omega
          · have := l1 g hg; have := HZ.out; simp only [World.size_setCell]; omega
          · have := l2 g hg; have := HZ.out; simp only [World.size_setCell]; omega
        · rw [hk1] at hDC
          have HDE := Lib.hid hk2
          have HDC := Lib.hid hDC
          clear hDC hk1 hk2 HRB HRC HC HN hs1 hs2 hs3 hs4 hs5 hs6 hs7 hs8 hnn
          go_wp2_with fail
          refine HDC.out.mono ?_
          rintro e w5 ⟨x, rfl, ⟨a1, a2, c1, c2, rfl, M5, l1, l2⟩, B5⟩
          have I5 := I4.later B5
          have I6 := I5.later ((Below.refl w5.heap.size w5).alloc (Nat.le_refl _) (.cells #[.int .i64 0, .int .i64 0, .int .i64 0, .int .i64 0, .slice a1 0 c1, .slice a2 0 c2] 33))
          clear M5 B5 I5 HDC l1 l2
          have Z : M6 (w5.alloc (.cells #[.int .i64 0, .int .i64 0, .int .i64 0, .int .i64 0, .slice a1 0 c1, .slice a2 0 c2] 33)) w.heap.size 0 0 0 0 (.slice none 0 0) (.slice none 0 0) := ⟨I6.res⟩
          have z0 := Z.k0
          have z1 := Z.k1
          have z2 := Z.k2
          have z3 := Z.k3
          have z4 := Z.k4
          have z5 := Z.k5
          have zf := fun j => Z.fz j
          have HR := Lib.hid I6.res
          have hB := I6.bel
          clear Z
          unfold msgV
          unfold Msg.zero at *
          simp only [List.length_nil] at *
          go_wp2_with fail
          refine bodyPost_ret (results_row_tmp2 rfl _ _ w.heap.size _ _ _ _ rfl (set6 HR.out _ _ _ _ _ _) rfl rfl rfl) rfl ?_
          unfold DePost
          rw [HDE.out]
          exact ⟨_, rfl, MsgAt.zero _ _, bel6 hB (Nat.le_refl _) _ _ _ _ _ _⟩
end Go.Proofs.Ytadhghikanjkeaa
