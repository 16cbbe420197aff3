/- Contracts of wire.Reader. -/
import Derived.Test.YtpehnggglolnoaaLibIn
import Derived.Test.YtpehnggglolnoaaSame
import Derived.Test.YtpehnggglolnoaaWire
import Derived.Test.YtpehnggglolnoaaReadM
namespace Go.Proofs.Ytpehnggglolnoaa
open Go.RowKit

theorem w64 (n : Int) (h : -9223372036854775808 ≤ n ∧ n ≤ 9223372036854775807) : wrap64 n = n := by unfold wrap64; omega

/-- A call changes block b alone (and makes new blocks). -/
structure BStep (b : Nat) (w w' : World) : Prop where
  os : w'.os = w.os
  tape : w'.tape = w.tape
  output : w'.output = w.output
  size : w.heap.size ≤ w'.heap.size
  block : ∀ k, k < w.heap.size → k ≠ b → w'.heap[k]? = w.heap[k]?

theorem BStep.refl (b : Nat) (w : World) : BStep b w w := ⟨rfl, rfl, rfl, Nat.le_refl _, fun _ _ _ => rfl⟩
theorem BStep.drew {b : Nat} {w w' : World} (h : BStep b w w') : BStep b w w'.drew := ⟨h.os, h.tape, h.output, h.size, h.block⟩
theorem BStep.drewN {b : Nat} {w w' : World} (h : BStep b w w') (n : Nat) : BStep b w (w'.drewN n) := ⟨h.os, h.tape, h.output, h.size, h.block⟩
theorem BStep.trans {b : Nat} {w w1 w2 : World} (h : BStep b w w1) (h' : BStep b w1 w2) : BStep b w w2 :=
  ⟨h'.os.trans h.os, h'.tape.trans h.tape, h'.output.trans h.output, Nat.le_trans h.size h'.size, fun k hk hb => (h'.block k (Nat.lt_of_lt_of_le hk h.size) hb).trans (h.block k hk hb)⟩
theorem BStep.set {b : Nat} {w w' : World} (h : BStep b w w') (j : Nat) (x : Value) : BStep b w (w'.setCell ⟨b, j, none⟩ x) :=
  ⟨h.os, h.tape, h.output, by simpa using h.size, fun k hk hb => by rw [Below.heap_setCell _ _ _ _ (by simpa using hb)]; exact h.block k hk hb⟩
theorem BStep.of_below {b : Nat} {w w' : World} (h : Below w.heap.size w w') : BStep b w w' := ⟨h.os, h.tape, h.output, h.size, fun k hk _ => h.block k hk⟩
theorem BStep.below {b : Nat} {w w' : World} (h : BStep b w w') (m : Nat) (hm : m ≤ b) (hb : b < w.heap.size) : Below m w w' :=
  ⟨h.os, h.tape, h.output, h.size, fun k hk => h.block k (by omega) (by omega)⟩

/-- What lies outside block b can still be read. -/
theorem Rv.bstep {b : Nat} {w w' : World} {v : Value} {n : Nat} {us : List Value} (h : Rv w v n us) (hs : BStep b w w') (hv : v.ownBlock ≠ some b) : Rv w' v n us := by
  obtain ⟨ao, cap, rfl, h2, h3, h4, h5⟩ := h
  refine ⟨ao, cap, rfl, h2, h3, h4, ?_⟩
  rcases h5 with h5 | ⟨g, off, rfl, h5⟩
  · exact .inl h5
  · refine .inr ⟨g, off, rfl, fun i u hi => ?_⟩
    have hc := h5 i u hi
    have hlt := World.block_lt_of_cell? _ _ hc
    have hb := hs.block g hlt (by simpa [Value.ownBlock] using hv)
    rw [← hc]
    simp only [World.cell?, hb]

/-- A Reader in block b: its bytes, its place and its error. -/
def Rr (w : World) (b : Nat) (v : Value) (bs : List UInt8) (at' e : Int) : Prop :=
  w.heap[b]? = some (.cells #[v, .int .i64 at', .int .i64 e] 120 (0, 0)) ∧ Rv w v bs.length (bs.map vB) ∧ v.ownBlock ≠ some b

theorem Rr.lt {w : World} {b : Nat} {v : Value} {bs : List UInt8} {a e : Int} (h : Rr w b v bs a e) : b < w.heap.size := (Array.getElem?_eq_some_iff.1 h.1).1
theorem Rr.cell0 {w : World} {b : Nat} {v : Value} {bs : List UInt8} {a e : Int} (h : Rr w b v bs a e) : w.cell? ⟨b, 0, none⟩ = some v := by simp [World.cell?, h.1]
theorem Rr.cell1 {w : World} {b : Nat} {v : Value} {bs : List UInt8} {a e : Int} (h : Rr w b v bs a e) : w.cell? ⟨b, 1, none⟩ = some (.int .i64 a) := by simp [World.cell?, h.1]
theorem Rr.cell2 {w : World} {b : Nat} {v : Value} {bs : List UInt8} {a e : Int} (h : Rr w b v bs a e) : w.cell? ⟨b, 2, none⟩ = some (.int .i64 e) := by simp [World.cell?, h.1]
theorem Rr.frozen {w : World} {b : Nat} {v : Value} {bs : List UInt8} {a e : Int} (h : Rr w b v bs a e) (j : Nat) : w.frozen? ⟨b, j, none⟩ = false := by simp [World.frozen?, h.1]
theorem Rr.at {w : World} {b : Nat} {v : Value} {bs : List UInt8} {a e : Int} (h : Rr w b v bs a e) (a' : Int) : Rr (w.setCell ⟨b, 1, none⟩ (.int .i64 a')) b v bs a' e := by
  refine ⟨?_, h.2.1.bstep ((BStep.refl b w).set 1 _) h.2.2, h.2.2⟩
  obtain ⟨hlt, hk⟩ := Array.getElem?_eq_some_iff.1 h.1
  show (w.heap.modify b _)[b]? = _
  rw [Array.getElem?_eq_getElem (by rw [Array.size_modify]; exact hlt), Array.getElem_modify_self, hk]
  rfl
theorem Rr.err {w : World} {b : Nat} {v : Value} {bs : List UInt8} {a e : Int} (h : Rr w b v bs a e) (e' : Int) : Rr (w.setCell ⟨b, 2, none⟩ (.int .i64 e')) b v bs a e' := by
  refine ⟨?_, h.2.1.bstep ((BStep.refl b w).set 2 _) h.2.2, h.2.2⟩
  obtain ⟨hlt, hk⟩ := Array.getElem?_eq_some_iff.1 h.1
  show (w.heap.modify b _)[b]? = _
  rw [Array.getElem?_eq_getElem (by rw [Array.size_modify]; exact hlt), Array.getElem_modify_self, hk]
  rfl
theorem Rr.bstep {w w' : World} {b c : Nat} {v : Value} {bs : List UInt8} {a e : Int} (h : Rr w b v bs a e) (hs : BStep c w w') (hbc : b ≠ c) (hv : v.ownBlock ≠ some c) : Rr w' b v bs a e :=
  ⟨(hs.block b h.lt hbc).trans h.1, h.2.1.bstep hs hv, h.2.2⟩
theorem Rr.drew {w : World} {b : Nat} {v : Value} {bs : List UInt8} {a e : Int} (h : Rr w b v bs a e) : Rr w.drew b v bs a e := h
theorem Rr.drewN {w : World} {b : Nat} {v : Value} {bs : List UInt8} {a e : Int} (h : Rr w b v bs a e) (n : Nat) : Rr (w.drewN n) b v bs a e := h

/-- The same, as a state of the plain law. -/
inductive Rst (w : World) (b : Nat) (v : Value) (bs : List UInt8) : RS → Prop
  | ok (k : Nat) (hk : k ≤ bs.length) (h : Rr w b v bs k 0) : Rst w b v bs (.ok (bs.drop k))
  | bad (a e : Int) (he : e ≠ 0) (h : Rr w b v bs a e) : Rst w b v bs (.error e)

/-- A read's post: its value, the new state, and no other block has changed. -/
def RPost (w : World) (b : Nat) (v : Value) (bs : List UInt8) (s : RS) (x : Value) (en : Ending) (w' : World) : Prop := en = .returned x ∧ Rst w' b v bs s ∧ BStep b w w'

set_option maxHeartbeats 1000000 in
theorem oct_any (b : Nat) (v : Value) (bs : List UInt8) (s : RS) (w : World) (h : Rst w b v bs s) :
    Calls Try.prog 72 #[.pointer (some ⟨b, 0, none⟩)] w (RPost w b v bs (rdO s).2 (vB (rdO s).1)) := by
  rcases h with ⟨k, hk, h⟩ | ⟨a, e, he, h⟩
  · have hc0 := h.cell0
    have hc1 := h.cell1
    have hc2 := h.cell2
    have hf1 := h.frozen 1
    have hf2 := h.frozen 2
    obtain ⟨ao, cap, rfl, hcap, hrd⟩ := h.2.1.opened
    have hlen := h.2.1.len
    unfold maxLen at hlen
    by_cases hlt : k < bs.length
    · have hwr : wrap64 ((k : Int) + 1) = (k : Int) + 1 := w64 _ (by omega)
      go_enter Try.func72, Try.ntmps72
      go_wp2_with fail
      go_quiet (fail)
      go_wp2_with fail
      have h7 := (h.drewN nq).at ((k : Int) + 1)
      have hB : BStep b w ((w.drewN nq).setCell ⟨b, 1, none⟩ (.int .i64 ((k : Int) + 1))) := (BStep.drewN (BStep.refl b w) nq).set 1 _
      generalize hW7 : ((w.drewN nq).setCell ⟨b, 1, none⟩ (.int .i64 ((k : Int) + 1))) = W7 at *
      obtain ⟨b2, off2, rfl, hcx⟩ := h7.2.1.rd.cell (i := k) (u := vB bs[k]) (by simp [hlt])
      have hd0 := h7.cell0
      have hd1 := h7.cell1
      have hwr2 : wrap64 ((k : Int) + 1 - 1) = (k : Int) := by rw [w64 _ (by omega)]; omega
      simp only [vB] at hcx
      go_quiet (fail)
      go_wp2_with fail
      go_ret
      have hdr : bs.drop k = bs[k] :: bs.drop (k + 1) := List.drop_eq_getElem_cons hlt
      rw [hdr]
      exact ⟨rfl, .ok (k + 1) (by omega) (h7.drewN _), hB.drewN _⟩
    · go_enter Try.func72, Try.ntmps72
      go_wp2_with fail
      go_quiet (fail)
      go_wp2_with fail
      go_ret
      have hdr : bs.drop k = [] := List.drop_eq_nil_of_le (by omega)
      rw [hdr]
      exact ⟨rfl, .bad k 3 (by decide) ((h.drewN _).err 3), ((BStep.refl b w).drewN _).set 2 _⟩
  · have hc2 := h.cell2
    have hne : (e == 0) = false := by simpa using he
    go_enter Try.func72, Try.ntmps72
    go_wp2_with fail
    go_ret
    exact ⟨rfl, .bad a e he h, .refl _ _⟩

theorem Rst.ok_inv {w : World} {b : Nat} {v : Value} {bs l : List UInt8} (h : Rst w b v bs (.ok l)) : ∃ k, k ≤ bs.length ∧ l = bs.drop k ∧ Rr w b v bs (k : Int) 0 := by
  cases h with
  | ok k hk h => exact ⟨k, hk, rfl, h⟩
theorem Rst.bad_inv {w : World} {b : Nat} {v : Value} {bs : List UInt8} {e : Int} (h : Rst w b v bs (.error e)) : ∃ a, e ≠ 0 ∧ Rr w b v bs a e := by
  cases h with
  | bad a e he h => exact ⟨a, he, h⟩

set_option maxHeartbeats 2000000 in
set_option maxRecDepth 20000 in
theorem ruint_any (b : Nat) (v : Value) (bs : List UInt8) (s : RS) (w : World) (h : Rst w b v bs s) :
    Calls Try.prog 38 #[.pointer (some ⟨b, 0, none⟩)] w (RPost w b v bs (rdU s).2 (.int .u64 ((rdU s).1 : Int))) := by
  cases s with
  | error e =>
    obtain ⟨a, he, h0⟩ := h.bad_inv
    go_enter Try.func38, Try.ntmps38
    go_wp2
    go_loopw [3, 6] (fun nv iv wr => nv = .int .u64 0 ∧ iv = .int .i64 0 ∧ wr = w) (fun _ _ _ => 0)
    case atStart => exact ⟨rfl, rfl, rfl⟩
    case round =>
      obtain ⟨rfl, rfl, rfl⟩ := hrel
      go_wp2_with fail
      refine (oct_any b v bs _ _ h).mono ?_
      rintro en w1 ⟨rfl, h1, h2⟩
      obtain ⟨a1, he1, h3⟩ := h1.bad_inv
      have hc2 := h3.cell2
      have hne : (e == 0) = false := by simpa using he
      go_wp2_with fail
      go_ret
      exact ⟨rfl, h1, h2⟩
  | ok l =>
    obtain ⟨k0, hk0, rfl, h0⟩ := h.ok_inv
    go_enter Try.func38, Try.ntmps38
    go_wp2
    go_loopw [3, 6] (fun nv iv wr => ∃ (i n k : Nat), nv = .int .u64 (n : Int) ∧ iv = .int .i64 (i : Int) ∧ i ≤ 9 ∧ k ≤ bs.length ∧ n < 128 ^ i ∧ Hid (uInv (bs.drop k0) i n (bs.drop k)) ∧ Rr wr b v bs (k : Int) 0 ∧ BStep b w wr) (fun _ iv _ => 10 - (intOf iv).toNat)
    case atStart =>
      exact ⟨0, 0, k0, rfl, rfl, by omega, hk0, by simp, uInv_start _, h0, .refl _ _⟩
    case round =>
      obtain ⟨i, n, k, rfl, rfl, hi, hk, hn, HU, hr, hB⟩ := hrel
      by_cases hlt : k < bs.length
      · have hdr : bs.drop k = bs[k] :: bs.drop (k + 1) := List.drop_eq_getElem_cons hlt
        generalize bs[k] = c at *
        have ho := oct_any b v bs _ _ (.ok k hk hr)
        rw [hdr] at ho HU
        go_wp2_with fail
        refine ho.mono ?_
        rintro en w1 ⟨rfl, h1, h2⟩
        obtain ⟨k1, hk1, hd1, hr1⟩ := h1.ok_inv
        have hc2 := hr1.cell2
        simp only [vB, rdO]
        have HN := Lib.hid hn
        have HI := Lib.hid hi
        clear hn hi
        by_cases hform : (i = 9 ∧ 1 < c.toNat) ∨ (0 < i ∧ c.toNat = 0)
        · have hpost := uInv_form HU.out hform
          have hE : ∀ w2, w2 = w1.setCell ⟨b, 2, none⟩ (.int .i64 2) → RPost w b v bs (rdU (.ok (bs.drop k0))).2 (.int .u64 ((rdU (.ok (bs.drop k0))).1 : Int)) (.returned (.int .u64 0)) w2 := by
            rintro w2 rfl
            rw [hpost]
            exact ⟨rfl, .bad _ 2 (by decide) (hr1.err 2), (hB.trans h2).set 2 _⟩
          have HE := Lib.hid hE
          have hf2 := hr1.frozen 2
          clear hE hpost
          rcases hform with ⟨h9, hc⟩ | ⟨hp, hc⟩
          · have hb1 : ((i : Int) == 9) = true := beq_iff_eq.2 (by omega)
            have hb2 : decide (1 < (c.toNat : Int)) = true := decide_eq_true (by omega)
            have H1 := Lib.hid h9
            have H2 := Lib.hid hc
            clear h9 hc
            go_wp2_with fail
            go_ret
            exact HE.out _ rfl
          · have hb4 : ((c.toNat : Int) == 0) = true := beq_iff_eq.2 (by omega)
            have hb2 : decide (1 < (c.toNat : Int)) = false := decide_eq_false (by omega)
            have H2 := Lib.hid hc
            clear hc
            by_cases h9 : i = 9
            · have hb1 : ((i : Int) == 9) = true := beq_iff_eq.2 (by omega)
              have H1 := Lib.hid h9
              clear h9
              go_wp2_with fail
              go_ret
              exact HE.out _ rfl
            · have hb1 : ((i : Int) == 9) = false := beq_eq_false_iff_ne.2 (by omega)
              have H1 := Lib.hid h9
              clear h9
              go_wp2_with fail
              go_ret
              exact HE.out _ rfl
        · have hsh := shl_step i n c HI.out HN.out (by have := HI.out; omega)
          have HF := Lib.hid hform
          have hpos : ((i : Int) == 9) = true ∧ decide (1 < (c.toNat : Int)) = false ∧ 0 < i ∧ ((c.toNat : Int) == 0) = false ∨ ((i : Int) == 9) = false ∧ 0 < i ∧ ((c.toNat : Int) == 0) = false ∨ ((i : Int) == 9) = false ∧ ¬ 0 < i := by
            by_cases h9 : i = 9
            · exact .inl ⟨beq_iff_eq.2 (by omega), decide_eq_false (by omega), by omega, beq_eq_false_iff_ne.2 (by omega)⟩
            · by_cases hi0 : 0 < i
              · exact .inr (.inl ⟨beq_eq_false_iff_ne.2 (by omega), hi0, beq_eq_false_iff_ne.2 (by omega)⟩)
              · exact .inr (.inr ⟨beq_eq_false_iff_ne.2 (by omega), hi0⟩)
          clear hform
          by_cases hc : c.toNat < 128
          · have hd := uInv_done HU.out HF.out hc
            have HE : Hid (RPost w b v bs (rdU (.ok (bs.drop k0))).2 (.int .u64 ((rdU (.ok (bs.drop k0))).1 : Int)) (.returned (.int .u64 ((n + 128 ^ i * (c.toNat % 128) : Nat) : Int))) w1) := by
              show RPost _ _ _ _ _ _ _ _
              rw [hd]
              exact ⟨rfl, h1, hB.trans h2⟩
            have hb5 : decide ((c.toNat : Int) < 128) = true := decide_eq_true (by omega)
            have H2 := Lib.hid hc
            clear hc hd
            generalize n + 128 ^ i * (c.toNat % 128) = m at *
            rcases hpos with ⟨hb1, hb2, hp, hb4⟩ | ⟨hb1, hp, hb4⟩ | ⟨hb1, hp⟩
            all_goals
              go_wp2_with fail
              go_ret
              exact HE.out
          · have hst := Lib.hid (uInv_step HU.out HF.out hc)
            have hlt1 := Lib.hid (step_lt i n c.toNat HN.out)
            have hb5 : decide ((c.toNat : Int) < 128) = false := decide_eq_false (by omega)
            have H2 := Lib.hid hc
            clear hc
            generalize n + 128 ^ i * (c.toNat % 128) = m at *
            rw [hd1] at hst
            rcases hpos with ⟨hb1, hb2, hp, hb4⟩ | ⟨hb1, hp, hb4⟩ | ⟨hb1, hp⟩
            · have := of_decide_eq_false hb2
              have := H2.out
              omega
            all_goals
              have h10 : i + 1 ≤ 9 := by have := beq_eq_false_iff_ne.1 hb1; have := HI.out; omega
              have H10 := Lib.hid h10
              clear h10
              go_wp2_with fail
              go_roundw
              case rel => exact ⟨i + 1, m, k1, rfl, by go_num, H10.out, hk1, hlt1.out, hst, hr1, hB.trans h2⟩
              case measure => have := H10.out; simp [intOf]; omega
      · have hdr : bs.drop k = [] := List.drop_eq_nil_of_le (by omega)
        have ho := oct_any b v bs _ _ (.ok k hk hr)
        rw [hdr] at ho HU
        go_wp2_with fail
        refine ho.mono ?_
        rintro en w1 ⟨rfl, h1, h2⟩
        obtain ⟨a1, he1, hr1⟩ := h1.bad_inv
        have hc2 := hr1.cell2
        go_wp2_with fail
        go_ret
        rw [uInv_nil HU.out]
        exact ⟨rfl, h1, hB.trans h2⟩
end Go.Proofs.Ytpehnggglolnoaa
