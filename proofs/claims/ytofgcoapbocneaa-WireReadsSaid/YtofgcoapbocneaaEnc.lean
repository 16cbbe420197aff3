/- law02.encode: the encoding of a list of values. -/
import Derived.Test.YtofgcoapbocneaaVal
namespace Go.Proofs.Ytofgcoapbocneaa
open Go.RowKit

/-- A list of values in memory: each value with its rows. -/
abbrev VL := List (V × Value × Value)
def flatV (ms : VL) : List Value := ms.flatMap fun p => [.int .i64 p.1.k, .int .u64 (p.1.u : Int), .int .i64 p.1.n, p.2.1, p.2.2]
def encs (ms : VL) : List UInt8 := ms.flatMap fun p => p.1.enc

theorem flatV_at (ms : VL) (i j : Nat) (hj : j < 5) : (flatV ms)[5 * i + j]? = ms[i]?.bind fun p => [Value.int .i64 p.1.k, .int .u64 (p.1.u : Int), .int .i64 p.1.n, p.2.1, p.2.2][j]? := by
  induction ms generalizing i with
  | nil => simp [flatV]
  | cons p ms ih =>
    rw [flatV, List.flatMap_cons]
    cases i with
    | zero => rw [List.getElem?_append_left (by simp; omega)]; simp
    | succ i =>
      rw [List.getElem?_append_right (by simp; omega), show 5 * (i + 1) + j - [Value.int .i64 p.1.k, .int .u64 (p.1.u : Int), .int .i64 p.1.n, p.2.1, p.2.2].length = 5 * i + j from by simp; omega]
      have := ih i
      rw [flatV] at this
      rw [this]; simp

theorem Rd.at {w : World} {b off : Nat} {us : List Value} (h : Rd w (some ⟨b, off, none⟩) us) {i : Nat} {u : Value} (hi : us[i]? = some u) : w.cell? ⟨b, off + i, none⟩ = some u := by
  obtain ⟨b', off', e, h'⟩ := h.cell hi
  cases e; exact h'

/-- The list can be read, its values' rows lie below B. -/
structure RvVs (w : World) (B : Nat) (c : Value) (ms : VL) : Prop where
  rv : Rv w c ms.length (flatV ms)
  lo : Low B c
  el : ∀ p ∈ ms, RvV w B p.1 p.2.1 p.2.2 ∧ p.1.Ok
theorem RvVs.belowb {w w' : World} {B : Nat} {c : Value} {ms : VL} (h : RvVs w B c ms) (hs : Below B w w') : RvVs w' B c ms :=
  ⟨h.rv.belowb hs h.lo, h.lo, fun p hp => ⟨(h.el p hp).1.belowb hs, (h.el p hp).2⟩⟩

theorem enc_len (m : V) (h : m.Ok) : m.enc.length ≤ 1000020 := by
  have h1 := uvar_len m.u
  have h2 := uvar_len (zz m.n)
  have h3 := uvar_len m.b.length
  have h4 := uvar_len m.l.length
  have h5 := zvars_len m.l
  have hb := h.b
  have hl := h.l
  rw [V.enc]
  split
  · omega
  · split
    · simp only [zvar]; omega
    · split
      · simp
      · split
        · simp only [rawW, List.length_append]; omega
        · simp only [intsW, List.length_append]; omega
theorem encs_len (ms : VL) (h : ∀ p ∈ ms, p.1.Ok) : (encs ms).length ≤ 1000020 * ms.length := by
  induction ms with
  | nil => simp [encs]
  | cons p ms ih =>
    have h1 := enc_len p.1 (h p (by simp))
    have h2 := ih fun q hq => h q (by simp [hq])
    simp only [encs, List.flatMap_cons, List.length_append, List.length_cons] at h2 ⊢
    omega
theorem encs_snoc (ms : VL) (i : Nat) (hi : i < ms.length) : encs (ms.take (i + 1)) = encs (ms.take i) ++ ms[i].1.enc := by
  rw [List.take_succ_eq_append_getElem hi]
  simp only [encs, List.flatMap_append, List.flatMap_cons, List.flatMap_nil, List.append_nil]

set_option maxHeartbeats 2000000 in
theorem encode_any (c : Value) (ms : VL) (w : World) (hc : RvVs w w.heap.size c ms) (hl : ms.length ≤ 900) :
    Calls Try.prog 35 #[c] w (RetMade w 5 ((encs ms).map vB)) := by
  obtain ⟨ao, cap, rfl, hcap, hrd⟩ := hc.rv.opened
  go_enter Try.func35, Try.ntmps35
  go_wp2_with fail
  have hB0 : Below w.heap.size w (w.alloc (.cells #[.slice none 0 0] 26)) := (Below.refl _ w).alloc (Nat.le_refl _) _
  go_loopw [4] (fun nv wr => ∃ (i : Nat) (v2 : Value), nv = .int .i64 (i : Int) ∧ i ≤ ms.length ∧ Wr wr w.heap.size v2 (encs (ms.take i)) ∧ Below w.heap.size w wr) (fun nv _ => ms.length - (intOf nv).toNat)
  case atStart => exact ⟨0, _, rfl, Nat.zero_le _, Wr.new w, hB0⟩
  case round =>
    obtain ⟨i, v2, rfl, hi, hW, hB⟩ := hrel
    by_cases hlt : i < ms.length
    · have hr := (hc.belowb hB)
      have hsn := Lib.hid (encs_snoc ms i hlt)
      have hel := hr.el ms[i] (List.getElem_mem hlt)
      have hfl : ∀ j, j < 5 → (flatV ms)[5 * i + j]? = [Value.int .i64 ms[i].1.k, .int .u64 (ms[i].1.u : Int), .int .i64 ms[i].1.n, ms[i].2.1, ms[i].2.2][j]? := by
        intro j hj; rw [flatV_at ms i j hj, List.getElem?_eq_getElem hlt]; rfl
      generalize ms[i] = p at *
      obtain ⟨m, vb, vl⟩ := p
      simp only at hfl hel hsn
      obtain ⟨b2, off2, rfl, hc0⟩ := hr.rv.rd.cell (hfl 0 (by omega))
      have hc1 := hr.rv.rd.at (hfl 1 (by omega))
      have hc2 := hr.rv.rd.at (hfl 2 (by omega))
      have hc3 := hr.rv.rd.at (hfl 3 (by omega))
      have hc4 := hr.rv.rd.at (hfl 4 (by omega))
      rw [show off2 + (5 * i + 0) = off2 + i * 5 from by omega] at hc0
      rw [show off2 + (5 * i + 1) = off2 + i * 5 + 1 from by omega] at hc1
      rw [show off2 + (5 * i + 2) = off2 + i * 5 + 2 from by omega] at hc2
      rw [show off2 + (5 * i + 3) = off2 + i * 5 + 3 from by omega] at hc3
      rw [show off2 + (5 * i + 4) = off2 + i * 5 + 4 from by omega] at hc4
      clear hfl
      have hel2 := encs_len (ms.take i) (fun p hp => (hr.el p (List.mem_of_mem_take hp)).2)
      have hlen : (encs (ms.take i)).length ≤ 1000000000 := by rw [List.length_take] at hel2; omega
      have HLN := Lib.hid hlen
      clear hlen hel2
      go_wp2_with fail
      refine (write_any _ _ _ m hel.2 vb vl _ hW hel.1 HLN.out).mono ?_
      rintro e w4 ⟨v4, rfl, W4, S4⟩
      have B4 := S4.bel hW hB (Nat.le_refl _)
      rw [← hsn.out] at W4
      go_wp2_with fail
      go_roundw
      case rel => exact ⟨i + 1, v4, by go_num, by omega, W4, B4⟩
      case measure => simp [intOf]; omega
    · obtain rfl : i = ms.length := by omega
      rw [List.take_length] at hW
      have hel2 := encs_len ms (fun p hp => (hc.el p hp).2)
      go_wp2_with fail
      refine (wdone_any _ _ _ _ hW (by omega)).mono ?_
      rintro e w5 ⟨d, rfl, M5⟩
      go_wp2_with fail
      go_ret
      exact ⟨d, rfl, own_base M5.1 hB.size, bel hB M5.2⟩
end Go.Proofs.Ytofgcoapbocneaa
