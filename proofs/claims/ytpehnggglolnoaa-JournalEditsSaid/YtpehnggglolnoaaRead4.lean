/- Several texts in one: Read Read2 Read3 Read4. -/
import Derived.Test.YtpehnggglolnoaaLibIn
import Derived.Test.YtpehnggglolnoaaSame
import Derived.Test.YtpehnggglolnoaaWire
import Derived.Test.YtpehnggglolnoaaReadM
/- Contracts of wire.Reader. -/
namespace Go.Proofs.Ytpehnggglolnoaa
open Go.RowKit

theorem w64 (n : Int) (h : -9223372036854775808 ≤ n ∧ n ≤ 9223372036854775807) : wrap64 n = n := by unfold wrap64; omega

/-- A call changes block b alone (and makes new blocks). -/
structure BStep (b : Nat) (w w' : World) : Prop where
  os : w'.os = w.os
  tape : w'.tape = w.tape
  output : w'.output = w.output
  size : w.heap.size ≤ w'.heap.size
  block : ∀ k, k < w.heap.size → k ≠ b → w'.heap[k]? = w.heap[k]?

theorem BStep.refl (b : Nat) (w : World) : BStep b w w := ⟨rfl, rfl, rfl, Nat.le_refl _, fun _ _ _ => rfl⟩
theorem BStep.drew {b : Nat} {w w' : World} (h : BStep b w w') : BStep b w w'.drew := ⟨h.os, h.tape, h.output, h.size, h.block⟩
theorem BStep.drewN {b : Nat} {w w' : World} (h : BStep b w w') (n : Nat) : BStep b w (w'.drewN n) := ⟨h.os, h.tape, h.output, h.size, h.block⟩
theorem BStep.trans {b : Nat} {w w1 w2 : World} (h : BStep b w w1) (h' : BStep b w1 w2) : BStep b w w2 :=
  ⟨h'.os.trans h.os, h'.tape.trans h.tape, h'.output.trans h.output, Nat.le_trans h.size h'.size, fun k hk hb => (h'.block k (Nat.lt_of_lt_of_le hk h.size) hb).trans (h.block k hk hb)⟩
theorem BStep.set {b : Nat} {w w' : World} (h : BStep b w w') (j : Nat) (x : Value) : BStep b w (w'.setCell ⟨b, j, none⟩ x) :=
  ⟨h.os, h.tape, h.output, by simpa using h.size, fun k hk hb => by rw [Below.heap_setCell _ _ _ _ (by simpa using hb)]; exact h.block k hk hb⟩
theorem BStep.of_below {b : Nat} {w w' : World} (h : Below w.heap.size w w') : BStep b w w' := ⟨h.os, h.tape, h.output, h.size, fun k hk _ => h.block k hk⟩
theorem BStep.below {b : Nat} {w w' : World} (h : BStep b w w') (m : Nat) (hm : m ≤ b) (hb : b < w.heap.size) : Below m w w' :=
  ⟨h.os, h.tape, h.output, h.size, fun k hk => h.block k (by omega) (by omega)⟩

/-- What lies outside block b can still be read. -/
theorem Rv.bstep {b : Nat} {w w' : World} {v : Value} {n : Nat} {us : List Value} (h : Rv w v n us) (hs : BStep b w w') (hv : v.ownBlock ≠ some b) : Rv w' v n us := by
  obtain ⟨ao, cap, rfl, h2, h3, h4, h5⟩ := h
  refine ⟨ao, cap, rfl, h2, h3, h4, ?_⟩
  rcases h5 with h5 | ⟨g, off, rfl, h5⟩
  · exact .inl h5
  · refine .inr ⟨g, off, rfl, fun i u hi => ?_⟩
    have hc := h5 i u hi
    have hlt := World.block_lt_of_cell? _ _ hc
    have hb := hs.block g hlt (by simpa [Value.ownBlock] using hv)
    rw [← hc]
    simp only [World.cell?, hb]

/-- A Reader in block b: its bytes, its place and its error. -/
def Rr (w : World) (b : Nat) (v : Value) (bs : List UInt8) (at' e : Int) : Prop :=
  w.heap[b]? = some (.cells #[v, .int .i64 at', .int .i64 e] 120 (0, 0)) ∧ Rv w v bs.length (bs.map vB) ∧ v.ownBlock ≠ some b

theorem Rr.lt {w : World} {b : Nat} {v : Value} {bs : List UInt8} {a e : Int} (h : Rr w b v bs a e) : b < w.heap.size := (Array.getElem?_eq_some_iff.1 h.1).1
theorem Rr.cell0 {w : World} {b : Nat} {v : Value} {bs : List UInt8} {a e : Int} (h : Rr w b v bs a e) : w.cell? ⟨b, 0, none⟩ = some v := by simp [World.cell?, h.1]
theorem Rr.cell1 {w : World} {b : Nat} {v : Value} {bs : List UInt8} {a e : Int} (h : Rr w b v bs a e) : w.cell? ⟨b, 1, none⟩ = some (.int .i64 a) := by simp [World.cell?, h.1]
theorem Rr.cell2 {w : World} {b : Nat} {v : Value} {bs : List UInt8} {a e : Int} (h : Rr w b v bs a e) : w.cell? ⟨b, 2, none⟩ = some (.int .i64 e) := by simp [World.cell?, h.1]
theorem Rr.frozen {w : World} {b : Nat} {v : Value} {bs : List UInt8} {a e : Int} (h : Rr w b v bs a e) (j : Nat) : w.frozen? ⟨b, j, none⟩ = false := by simp [World.frozen?, h.1]
theorem Rr.at {w : World} {b : Nat} {v : Value} {bs : List UInt8} {a e : Int} (h : Rr w b v bs a e) (a' : Int) : Rr (w.setCell ⟨b, 1, none⟩ (.int .i64 a')) b v bs a' e := by
  refine ⟨?_, h.2.1.bstep ((BStep.refl b w).set 1 _) h.2.2, h.2.2⟩
  obtain ⟨hlt, hk⟩ := Array.getElem?_eq_some_iff.1 h.1
  show (w.heap.modify b _)[b]? = _
  rw [Array.getElem?_eq_getElem (by rw [Array.size_modify]; exact hlt), Array.getElem_modify_self, hk]
  rfl
theorem Rr.err {w : World} {b : Nat} {v : Value} {bs : List UInt8} {a e : Int} (h : Rr w b v bs a e) (e' : Int) : Rr (w.setCell ⟨b, 2, none⟩ (.int .i64 e')) b v bs a e' := by
  refine ⟨?_, h.2.1.bstep ((BStep.refl b w).set 2 _) h.2.2, h.2.2⟩
  obtain ⟨hlt, hk⟩ := Array.getElem?_eq_some_iff.1 h.1
  show (w.heap.modify b _)[b]? = _
  rw [Array.getElem?_eq_getElem (by rw [Array.size_modify]; exact hlt), Array.getElem_modify_self, hk]
  rfl
theorem Rr.bstep {w w' : World} {b c : Nat} {v : Value} {bs : List UInt8} {a e : Int} (h : Rr w b v bs a e) (hs : BStep c w w') (hbc : b ≠ c) (hv : v.ownBlock ≠ some c) : Rr w' b v bs a e :=
  ⟨(hs.block b h.lt hbc).trans h.1, h.2.1.bstep hs hv, h.2.2⟩
theorem Rr.drew {w : World} {b : Nat} {v : Value} {bs : List UInt8} {a e : Int} (h : Rr w b v bs a e) : Rr w.drew b v bs a e := h
theorem Rr.drewN {w : World} {b : Nat} {v : Value} {bs : List UInt8} {a e : Int} (h : Rr w b v bs a e) (n : Nat) : Rr (w.drewN n) b v bs a e := h

/-- The same, as a state of the plain law. -/
inductive Rst (w : World) (b : Nat) (v : Value) (bs : List UInt8) : RS → Prop
  | ok (k : Nat) (hk : k ≤ bs.length) (h : Rr w b v bs k 0) : Rst w b v bs (.ok (bs.drop k))
  | bad (a e : Int) (he : e ≠ 0) (h : Rr w b v bs a e) : Rst w b v bs (.error e)

/-- A read's post: its value, the new state, and no other block has changed. -/
def RPost (w : World) (b : Nat) (v : Value) (bs : List UInt8) (s : RS) (x : Value) (en : Ending) (w' : World) : Prop := en = .returned x ∧ Rst w' b v bs s ∧ BStep b w w'

set_option maxHeartbeats 1000000 in
theorem oct_any (b : Nat) (v : Value) (bs : List UInt8) (s : RS) (w : World) (h : Rst w b v bs s) :
    Calls Try.prog 72 #[.pointer (some ⟨b, 0, none⟩)] w (RPost w b v bs (rdO s).2 (vB (rdO s).1)) := by
  rcases h with ⟨k, hk, h⟩ | ⟨a, e, he, h⟩
  · have hc0 := h.cell0
    have hc1 := h.cell1
    have hc2 := h.cell2
    have hf1 := h.frozen 1
    have hf2 := h.frozen 2
    obtain ⟨ao, cap, rfl, hcap, hrd⟩ := h.2.1.opened
    have hlen := h.2.1.len
    unfold maxLen at hlen
    by_cases hlt : k < bs.length
    · have hwr : wrap64 ((k : Int) + 1) = (k : Int) + 1 := w64 _ (by omega)
      go_enter Try.func72, Try.ntmps72
      go_wp2_with fail
      go_quiet (fail)
      go_wp2_with fail
      have h7 := (h.drewN nq).at ((k : Int) + 1)
      have hB : BStep b w ((w.drewN nq).setCell ⟨b, 1, none⟩ (.int .i64 ((k : Int) + 1))) := (BStep.drewN (BStep.refl b w) nq).set 1 _
      generalize hW7 : ((w.drewN nq).setCell ⟨b, 1, none⟩ (.int .i64 ((k : Int) + 1))) = W7 at *
      obtain ⟨b2, off2, rfl, hcx⟩ := h7.2.1.rd.cell (i := k) (u := vB bs[k]) (by simp [hlt])
      have hd0 := h7.cell0
      have hd1 := h7.cell1
      have hwr2 : wrap64 ((k : Int) + 1 - 1) = (k : Int) := by rw [w64 _ (by omega)]; omega
      simp only [vB] at hcx
      go_quiet (fail)
      go_wp2_with fail
      go_ret
      have hdr : bs.drop k = bs[k] :: bs.drop (k + 1) := List.drop_eq_getElem_cons hlt
      rw [hdr]
      exact ⟨rfl, .ok (k + 1) (by omega) (h7.drewN _), hB.drewN _⟩
    · go_enter Try.func72, Try.ntmps72
      go_wp2_with fail
      go_quiet (fail)
      go_wp2_with fail
      go_ret
      have hdr : bs.drop k = [] := List.drop_eq_nil_of_le (by omega)
      rw [hdr]
      exact ⟨rfl, .bad k 3 (by decide) ((h.drewN _).err 3), ((BStep.refl b w).drewN _).set 2 _⟩
  · have hc2 := h.cell2
    have hne : (e == 0) = false := by simpa using he
    go_enter Try.func72, Try.ntmps72
    go_wp2_with fail
    go_ret
    exact ⟨rfl, .bad a e he h, .refl _ _⟩

theorem Rst.ok_inv {w : World} {b : Nat} {v : Value} {bs l : List UInt8} (h : Rst w b v bs (.ok l)) : ∃ k, k ≤ bs.length ∧ l = bs.drop k ∧ Rr w b v bs (k : Int) 0 := by
  cases h with
  | ok k hk h => exact ⟨k, hk, rfl, h⟩
theorem Rst.bad_inv {w : World} {b : Nat} {v : Value} {bs : List UInt8} {e : Int} (h : Rst w b v bs (.error e)) : ∃ a, e ≠ 0 ∧ Rr w b v bs a e := by
  cases h with
  | bad a e he h => exact ⟨a, he, h⟩

set_option maxHeartbeats 2000000 in
set_option maxRecDepth 20000 in
theorem ruint_any (b : Nat) (v : Value) (bs : List UInt8) (s : RS) (w : World) (h : Rst w b v bs s) :
    Calls Try.prog 38 #[.pointer (some ⟨b, 0, none⟩)] w (RPost w b v bs (rdU s).2 (.int .u64 ((rdU s).1 : Int))) := by
  cases s with
  | error e =>
    obtain ⟨a, he, h0⟩ := h.bad_inv
    go_enter Try.func38, Try.ntmps38
    go_wp2
    go_loopw [3, 6] (fun nv iv wr => nv = .int .u64 0 ∧ iv = .int .i64 0 ∧ wr = w) (fun _ _ _ => 0)
    case atStart => exact ⟨rfl, rfl, rfl⟩
    case round =>
      obtain ⟨rfl, rfl, rfl⟩ := hrel
      go_wp2_with fail
      refine (oct_any b v bs _ _ h).mono ?_
      rintro en w1 ⟨rfl, h1, h2⟩
      obtain ⟨a1, he1, h3⟩ := h1.bad_inv
      have hc2 := h3.cell2
      have hne : (e == 0) = false := by simpa using he
      go_wp2_with fail
      go_ret
      exact ⟨rfl, h1, h2⟩
  | ok l =>
    obtain ⟨k0, hk0, rfl, h0⟩ := h.ok_inv
    go_enter Try.func38, Try.ntmps38
    go_wp2
    go_loopw [3, 6] (fun nv iv wr => ∃ (i n k : Nat), nv = .int .u64 (n : Int) ∧ iv = .int .i64 (i : Int) ∧ i ≤ 9 ∧ k ≤ bs.length ∧ n < 128 ^ i ∧ Hid (uInv (bs.drop k0) i n (bs.drop k)) ∧ Rr wr b v bs (k : Int) 0 ∧ BStep b w wr) (fun _ iv _ => 10 - (intOf iv).toNat)
    case atStart =>
      exact ⟨0, 0, k0, rfl, rfl, by omega, hk0, by simp, uInv_start _, h0, .refl _ _⟩
    case round =>
      obtain ⟨i, n, k, rfl, rfl, hi, hk, hn, HU, hr, hB⟩ := hrel
      by_cases hlt : k < bs.length
      · have hdr : bs.drop k = bs[k] :: bs.drop (k + 1) := List.drop_eq_getElem_cons hlt
        generalize bs[k] = c at *
        have ho := oct_any b v bs _ _ (.ok k hk hr)
        rw [hdr] at ho HU
        go_wp2_with fail
        refine ho.mono ?_
        rintro en w1 ⟨rfl, h1, h2⟩
        obtain ⟨k1, hk1, hd1, hr1⟩ := h1.ok_inv
        have hc2 := hr1.cell2
        simp only [vB, rdO]
        have HN := Lib.hid hn
        have HI := Lib.hid hi
        clear hn hi
        by_cases hform : (i = 9 ∧ 1 < c.toNat) ∨ (0 < i ∧ c.toNat = 0)
        · have hpost := uInv_form HU.out hform
          have hE : ∀ w2, w2 = w1.setCell ⟨b, 2, none⟩ (.int .i64 2) → RPost w b v bs (rdU (.ok (bs.drop k0))).2 (.int .u64 ((rdU (.ok (bs.drop k0))).1 : Int)) (.returned (.int .u64 0)) w2 := by
            rintro w2 rfl
            rw [hpost]
            exact ⟨rfl, .bad _ 2 (by decide) (hr1.err 2), (hB.trans h2).set 2 _⟩
          have HE := Lib.hid hE
          have hf2 := hr1.frozen 2
          clear hE hpost
          rcases hform with ⟨h9, hc⟩ | ⟨hp, hc⟩
          · have hb1 : ((i : Int) == 9) = true := beq_iff_eq.2 (by omega)
            have hb2 : decide (1 < (c.toNat : Int)) = true := decide_eq_true (by omega)
            have H1 := Lib.hid h9
            have H2 := Lib.hid hc
            clear h9 hc
            go_wp2_with fail
            go_ret
            exact HE.out _ rfl
          · have hb4 : ((c.toNat : Int) == 0) = true := beq_iff_eq.2 (by omega)
            have hb2 : decide (1 < (c.toNat : Int)) = false := decide_eq_false (by omega)
            have H2 := Lib.hid hc
            clear hc
            by_cases h9 : i = 9
            · have hb1 : ((i : Int) == 9) = true := beq_iff_eq.2 (by omega)
              have H1 := Lib.hid h9
              clear h9
              go_wp2_with fail
              go_ret
              exact HE.out _ rfl
            · have hb1 : ((i : Int) == 9) = false := beq_eq_false_iff_ne.2 (by omega)
              have H1 := Lib.hid h9
              clear h9
              go_wp2_with fail
              go_ret
              exact HE.out _ rfl
        · have hsh := shl_step i n c HI.out HN.out (by have := HI.out; omega)
          have HF := Lib.hid hform
          have hpos : ((i : Int) == 9) = true ∧ decide (1 < (c.toNat : Int)) = false ∧ 0 < i ∧ ((c.toNat : Int) == 0) = false ∨ ((i : Int) == 9) = false ∧ 0 < i ∧ ((c.toNat : Int) == 0) = false ∨ ((i : Int) == 9) = false ∧ ¬ 0 < i := by
            by_cases h9 : i = 9
            · exact .inl ⟨beq_iff_eq.2 (by omega), decide_eq_false (by omega), by omega, beq_eq_false_iff_ne.2 (by omega)⟩
            · by_cases hi0 : 0 < i
              · exact .inr (.inl ⟨beq_eq_false_iff_ne.2 (by omega), hi0, beq_eq_false_iff_ne.2 (by omega)⟩)
              · exact .inr (.inr ⟨beq_eq_false_iff_ne.2 (by omega), hi0⟩)
          clear hform
          by_cases hc : c.toNat < 128
          · have hd := uInv_done HU.out HF.out hc
            have HE : Hid (RPost w b v bs (rdU (.ok (bs.drop k0))).2 (.int .u64 ((rdU (.ok (bs.drop k0))).1 : Int)) (.returned (.int .u64 ((n + 128 ^ i * (c.toNat % 128) : Nat) : Int))) w1) := by
              show RPost _ _ _ _ _ _ _ _
              rw [hd]
              exact ⟨rfl, h1, hB.trans h2⟩
            have hb5 : decide ((c.toNat : Int) < 128) = true := decide_eq_true (by omega)
            have H2 := Lib.hid hc
            clear hc hd
            generalize n + 128 ^ i * (c.toNat % 128) = m at *
            rcases hpos with ⟨hb1, hb2, hp, hb4⟩ | ⟨hb1, hp, hb4⟩ | ⟨hb1, hp⟩
            all_goals
              go_wp2_with fail
              go_ret
              exact HE.out
          · have hst := Lib.hid (uInv_step HU.out HF.out hc)
            have hlt1 := Lib.hid (step_lt i n c.toNat HN.out)
            have hb5 : decide ((c.toNat : Int) < 128) = false := decide_eq_false (by omega)
            have H2 := Lib.hid hc
            clear hc
            generalize n + 128 ^ i * (c.toNat % 128) = m at *
            rw [hd1] at hst
            rcases hpos with ⟨hb1, hb2, hp, hb4⟩ | ⟨hb1, hp, hb4⟩ | ⟨hb1, hp⟩
            · have := of_decide_eq_false hb2
              have := H2.out
              omega
            all_goals
              have h10 : i + 1 ≤ 9 := by have := beq_eq_false_iff_ne.1 hb1; have := HI.out; omega
              have H10 := Lib.hid h10
              clear h10
              go_wp2_with fail
              go_roundw
              case rel => exact ⟨i + 1, m, k1, rfl, by go_num, H10.out, hk1, hlt1.out, hst, hr1, hB.trans h2⟩
              case measure => have := H10.out; simp [intOf]; omega
      · have hdr : bs.drop k = [] := List.drop_eq_nil_of_le (by omega)
        have ho := oct_any b v bs _ _ (.ok k hk hr)
        rw [hdr] at ho HU
        go_wp2_with fail
        refine ho.mono ?_
        rintro en w1 ⟨rfl, h1, h2⟩
        obtain ⟨a1, he1, hr1⟩ := h1.bad_inv
        have hc2 := hr1.cell2
        go_wp2_with fail
        go_ret
        rw [uInv_nil HU.out]
        exact ⟨rfl, h1, hB.trans h2⟩
end Go.Proofs.Ytpehnggglolnoaa

/- Contracts of wire.Reader: Int, Bool, End, the lists. -/
namespace Go.Proofs.Ytpehnggglolnoaa
open Go.RowKit

set_option maxHeartbeats 1000000 in
theorem rint_any (b : Nat) (v : Value) (bs : List UInt8) (s : RS) (w : World) (h : Rst w b v bs s) :
    Calls Try.prog 61 #[.pointer (some ⟨b, 0, none⟩)] w (RPost w b v bs (rdI s).2 (.int .i64 (rdI s).1)) := by
  have hu := ruint_any b v bs s w h
  have hb := rdU_bound s
  rw [rdI]
  generalize rdU s = p at *
  obtain ⟨n, s'⟩ := p
  have HB := Lib.hid (back_bits n hb)
  clear hb
  go_enter Try.func61, Try.ntmps61
  go_wp2_with fail
  refine hu.mono ?_
  rintro en w1 ⟨rfl, h1, h2⟩
  go_wp2_with fail
  rw [HB.out]
  go_ret
  exact ⟨rfl, h1, h2⟩

set_option maxHeartbeats 1000000 in
theorem rend_any (b : Nat) (v : Value) (bs : List UInt8) (s : RS) (w : World) (h : Rst w b v bs s) :
    Calls Try.prog 39 #[.pointer (some ⟨b, 0, none⟩)] w (fun en w' => en = .returned (.int .i64 (rdEnd s)) ∧ ∃ n, w' = w.drewN n) := by
  cases s with
  | error e =>
    obtain ⟨a, he, h0⟩ := h.bad_inv
    have hc2 := h0.cell2
    have hne : (e == 0) = false := by simpa using he
    go_enter Try.func39, Try.ntmps39
    go_wp2_with fail
    go_ret
    exact ⟨rfl, 0, rfl⟩
  | ok l =>
    obtain ⟨k, hk, rfl, h0⟩ := h.ok_inv
    have hc0 := h0.cell0
    have hc1 := h0.cell1
    have hc2 := h0.cell2
    obtain ⟨ao, cap, rfl, hcap, hrd⟩ := h0.2.1.opened
    by_cases hlt : k < bs.length
    · have hd : rdEnd (.ok (bs.drop k)) = 2 := by rw [List.drop_eq_getElem_cons hlt]; rfl
      rw [hd]
      have hb : decide (k < bs.length) = true := decide_eq_true hlt
      go_enter Try.func39, Try.ntmps39
      go_wp2_with fail
      go_quiet (fail)
      go_wp2_with fail
      go_ret
      exact ⟨rfl, nq, rfl⟩
    · have hd : rdEnd (.ok (bs.drop k)) = 0 := by rw [List.drop_eq_nil_of_le (by omega)]; rfl
      rw [hd]
      have hb : decide (k < bs.length) = false := decide_eq_false hlt
      go_enter Try.func39, Try.ntmps39
      go_wp2_with fail
      go_quiet (fail)
      go_wp2_with fail
      go_ret
      exact ⟨rfl, nq, rfl⟩
end Go.Proofs.Ytpehnggglolnoaa

/- Contracts of wire.Reader: the lists. -/
namespace Go.Proofs.Ytpehnggglolnoaa
open Go.RowKit

/-- 'make([]T, 0, n)'. -/
theorem wpList_mk {P : Program} (w : World) {ops : Array Oper} {rest : List Oper} {o : Oper} {a : Act} {Q : Exit → Act → World → Prop} {t e : TypeId} {z : Value} {size bytes : Nat}
    (E : Elem P t e z size bytes) (hg : o.guard = none) (l c : Operand) (hop : o.op = Op.makeSlice t l c) (base : Nat)
    (kl kc : IntKind) (n : Nat) (hl : a.eval l = .int kl 0) (hc : a.eval c = .int kc (n : Int)) (b2 : bytes * n ≤ 281474976710656) (b4 : base ≤ w.heap.size)
    (hK : ∀ ao w', w'.ownsRow base e size (.slice ao 0 n) 0 [] → w.grownBy w' none → wpList P ops Q rest (a.put o.dst (.slice ao 0 n)) w') :
    wpList P ops Q (o :: rest) a w := by
  obtain ⟨i, hi, hz, hsize, hby⟩ := info_parts E.info
  subst hby
  have hle : n ≤ i.bytes * n := Nat.le_mul_of_pos_left _ E.hby
  exact wpList_make_own w hg l c t hop base e i z size E.ht hi hz hsize kl kc n n hl hc rfl b2 (by unfold maxLen; omega) b4 (fun w' h1 h2 => hK _ w' h1 h2)

/-- What a call that changes block b alone leaves of an owned row above it. -/
theorem own_bstep {w w' : World} {b base : Nat} {e : TypeId} {size : Nat} {v : Value} {n : Nat} {xs : List Value} (h : w.ownsRow base e size v n xs) (hs : BStep b w w') (hb : b < base) : w'.ownsRow base e size v n xs := by
  obtain ⟨hl, h | ⟨g, cap, cur, rfl, hb1, hg, hn, hc, hs', ht⟩⟩ := h
  · exact ⟨hl, .inl h⟩
  · exact ⟨hl, .inr ⟨g, cap, cur, rfl, hb1, (hs.block g (Array.getElem?_eq_some_iff.1 hg).1 (by omega)).trans hg, hn, hc, hs', ht⟩⟩

theorem Rst.lt {w : World} {b : Nat} {v : Value} {bs : List UInt8} {s : RS} (h : Rst w b v bs s) : b < w.heap.size := by
  cases h with
  | ok k hk h => exact h.lt
  | bad a e he h => exact h.lt
theorem Rst.rv {w : World} {b : Nat} {v : Value} {bs : List UInt8} {s : RS} (h : Rst w b v bs s) : Rv w v bs.length (bs.map vB) ∧ v.ownBlock ≠ some b := by
  cases h with
  | ok k hk h => exact h.2
  | bad a e he h => exact h.2
theorem BStep.later {W w1 w2 : World} {b : Nat} (hB : BStep b W w1) (hb : Below W.heap.size w1 w2) : BStep b W w2 :=
  ⟨hb.os.trans hB.os, hb.tape.trans hB.tape, hb.output.trans hB.output, Nat.le_trans hB.size hb.size, fun k hk hne => (hb.block k hk).trans (hB.block k hk hne)⟩
theorem Rr.next {W w1 w2 : World} {b : Nat} {v : Value} {bs : List UInt8} {a e : Int} {s0 : RS} (h0 : Rst W b v bs s0) (h1 : Rr w1 b v bs a e) (hB : BStep b W w1) (hb : Below W.heap.size w1 w2) : Rr w2 b v bs a e :=
  ⟨(hb.block b h0.lt).trans h1.1, h0.rv.1.bstep (hB.later hb) h0.rv.2, h1.2.2⟩
theorem drop_inj {bs : List UInt8} {i j : Nat} (hi : i ≤ bs.length) (hj : j ≤ bs.length) (h : bs.drop i = bs.drop j) : i = j := by
  have := congrArg List.length h
  simp only [List.length_drop] at this
  omega
theorem Rst.next {W w1 w2 : World} {b : Nat} {v : Value} {bs : List UInt8} {s0 s : RS} (h0 : Rst W b v bs s0) (h1 : Rst w1 b v bs s) (hB : BStep b W w1) (hb : Below W.heap.size w1 w2) : Rst w2 b v bs s := by
  cases h1 with
  | ok k hk h => exact .ok k hk (h.next h0 hB hb)
  | bad a e he h => exact .bad a e he (h.next h0 hB hb)

/-- A list's read: the call's own row, the new state. -/
def LPost (w : World) (b : Nat) (v : Value) (bs : List UInt8) (s : RS) (e : TypeId) (us : List Value) (en : Ending) (w' : World) : Prop :=
  ∃ v', en = .returned v' ∧ w'.ownsRow w.heap.size e 1 v' us.length us ∧ Rst w' b v bs s ∧ BStep b w w'

/-- A reader's method as a function value. -/
def meth (f : FuncId) (b : Nat) : Value := .func (.func f) #[.pointer (some ⟨b, 0, none⟩)] #[]

theorem rdRaw_cases (s : RS) : (∃ e, (rdU s).2 = .error e ∧ rdRaw s = ([], .error e)) ∨ (∃ r, (rdU s).2 = .ok r ∧ r.length < (rdU s).1 ∧ rdRaw s = ([], .error 3)) ∨
    (∃ r, (rdU s).2 = .ok r ∧ (rdU s).1 ≤ r.length ∧ rdRaw s = (r.take (rdU s).1, .ok (r.drop (rdU s).1))) := by
  rw [rdRaw, rdL]
  rcases hp : rdU s with ⟨n, e | r⟩
  · exact .inl ⟨e, rfl, rfl⟩
  · by_cases h : r.length < n
    · exact .inr (.inl ⟨r, rfl, h, by simp [h]⟩)
    · exact .inr (.inr ⟨r, rfl, by simpa using h, by simp [h]⟩)

set_option maxHeartbeats 4000000 in
set_option maxRecDepth 20000 in
theorem rlistB_any (b : Nat) (v : Value) (bs : List UInt8) (s : RS) (w : World) (h : Rst w b v bs s) (hl : bs.length ≤ 1099511627776) :
    Calls Try.prog 71 #[.pointer (some ⟨b, 0, none⟩), meth 72 b] w (LPost w b v bs (rdRaw s).2 5 ((rdRaw s).1.map vB)) := by
  unfold meth
  have hu := ruint_any b v bs s w h
  have hcase := rdRaw_cases s
  generalize rdRaw s = q at *
  generalize rdU s = p at *
  obtain ⟨n, s'⟩ := p
  simp only at hcase hu
  rcases hcase with ⟨e, rfl, rfl⟩ | ⟨r, rfl, hn, rfl⟩ | ⟨r, rfl, hn, rfl⟩
  · go_enter Try.func71, Try.ntmps71
    go_wp2_with fail
    refine hu.mono ?_
    rintro en w1 ⟨rfl, h1, h2⟩
    obtain ⟨a1, he, h3⟩ := h1.bad_inv
    have hc2 := h3.cell2
    have hne : (e == 0) = false := by simpa using he
    go_wp2_with fail
    go_ret
    exact ⟨_, rfl, World.ownsRow_nil _ _ _ _, h1, h2⟩
  · have HN := Lib.hid hn
    clear hn
    go_enter Try.func71, Try.ntmps71
    go_wp2_with fail
    refine hu.mono ?_
    rintro en w1 ⟨rfl, h1, h2⟩
    obtain ⟨k, hk, hr, h3⟩ := h1.ok_inv
    subst hr
    have hc0 := h3.cell0
    have hc1 := h3.cell1
    have hc2 := h3.cell2
    have hf2 := h3.frozen 2
    obtain ⟨ao, cap, rfl, hcap, hrd⟩ := h3.2.1.opened
    have hgt : decide ((bs.length : Int) - (k : Int) < (n : Int)) = true := decide_eq_true (by have := HN.out; rw [List.length_drop] at this; omega)
    go_wp2_with fail
    go_quiet (fail)
    go_wp2_with fail
    go_ret
    exact ⟨_, rfl, World.ownsRow_nil _ _ _ _, .bad _ 3 (by decide) ((h3.drewN nq).err 3), (h2.drewN nq).set 2 _⟩
  · have HN := Lib.hid hn
    clear hn
    go_enter Try.func71, Try.ntmps71
    go_wp2_with fail
    refine hu.mono ?_
    rintro en w1 ⟨rfl, h1, h2⟩
    obtain ⟨k, hk, hr, h3⟩ := h1.ok_inv
    subst hr
    have hc0 := h3.cell0
    have hc1 := h3.cell1
    have hc2 := h3.cell2
    obtain ⟨ao, cap, rfl, hcap, hrd⟩ := h3.2.1.opened
    have hnk : k + n ≤ bs.length := by have := HN.out; rw [List.length_drop] at this; omega
    have hgt : decide ((bs.length : Int) - (k : Int) < (n : Int)) = false := decide_eq_false (by omega)
    have hsz1 := h2.size
    go_wp2_with fail
    go_quiet (fail)
    go_wp2_with (refine wpList_mk _ Try.elB rfl _ _ rfl w.heap.size _ _ n rfl rfl (by omega) (by simpa using hsz1) ?_; intro aol w2 hown2 hg2)
    have h4 : Rr w2 b (.slice ao bs.length cap) bs (k : Int) 0 ∧ BStep b w w2 := by
      have hb : Below w.heap.size (w1.drewN nq) w2 := (Below.refl _ _).grown hg2 (by simpa using hsz1) (fun _ e => by cases e)
      exact ⟨(h3.drewN nq).next h (h2.drewN nq) hb, (h2.drewN nq).later hb⟩
    clear hg2 hu h1 h3 hc0 hc1 hc2 hrd h2
    obtain ⟨h4, hB4⟩ := h4
    go_loopw [6, 33] (fun lv iv wr => ∃ j : Nat, j ≤ n ∧ iv = .int .u64 (j : Int) ∧ wr.ownsRow w.heap.size 5 1 lv j (((bs.drop k).take j).map vB) ∧ Rr wr b (.slice ao bs.length cap) bs ((k + j : Nat) : Int) 0 ∧ BStep b w wr) (fun _ iv _ => n - (intOf iv).toNat)
    case atStart => exact ⟨0, Nat.zero_le _, rfl, hown2, h4, hB4⟩
    case round =>
      obtain ⟨j, hj, rfl, hown, hr, hB⟩ := hrel
      by_cases hlt : j < n
      · have hkj : k + j < bs.length := by omega
        have ho := oct_any b _ bs _ _ (.ok (k + j) (by omega) hr)
        rw [List.drop_eq_getElem_cons hkj, rdO] at ho
        have htk : (bs.drop k).take (j + 1) = (bs.drop k).take j ++ [bs[k + j]] := by
          rw [List.take_succ_eq_append_getElem (by rw [List.length_drop]; omega)]
          simp
        have HT := Lib.hid htk
        clear htk
        generalize bs[k + j] = c at *
        have hsz := hB.size
        have hbl := h.lt
        go_wp2_with (first
          | (go_at_call 72; refine ho.mono ?_; rintro en w5 ⟨rfl, h5, hB5⟩; simp only [vB]; obtain ⟨k5, hk5, hd5, hr5⟩ := h5.ok_inv; obtain rfl := drop_inj (by omega) hk5 hd5; have hs5 := hB5.size; have hown5 := own_bstep hown hB5 hbl)
          | (at_builtin; refine wpList_app _ rfl _ _ rfl Try.elB w.heap.size _ j _ rfl (hown5.alloc _) _ 1 [_] rfl (Rv.one _ _ _) rfl (ones1 _ rfl) (by omega) (by simp; omega) ?_; intro v6 w6 hown6 hg6 _; have hb6 : Below w.heap.size w5 w6 := ((Below.refl _ w5).alloc (by omega) _).grown hg6 (by simp; omega) (fun g hg => (hown5.lt g hg).1); have hr6 := hr5.next h (hB.trans hB5) hb6; have hc6 := hr6.cell2))
        go_roundw
        case rel =>
          refine ⟨j + 1, hlt, by go_num, ?_, hr6, (hB.trans hB5).later hb6⟩
          rw [HT.out, List.map_append]
          exact hown6
        case measure => simp [intOf]; omega
      · obtain rfl : j = n := by omega
        go_wp2_with fail
        go_ret
        refine ⟨_, rfl, ?_, ?_, hB⟩
        · have : (((bs.drop k).take j).map vB).length = j := by simp; omega
          rw [this]; exact hown
        · rw [List.drop_drop]
          exact .ok (k + j) hnk hr

/-- What the loop of a list of integers holds. -/
def nInv (n : Nat) (s0 : RS) (j : Nat) (us : List Int) (s : RS) : Prop := rdNs n s0 = (us ++ (rdNs (n - j) s).1, (rdNs (n - j) s).2)
theorem nInv_start (n : Nat) (s : RS) : nInv n s 0 [] s := rfl
theorem nInv_step {n j : Nat} {us : List Int} {s0 s : RS} (h : nInv n s0 j us s) (hj : j < n) : nInv n s0 (j + 1) (us ++ [(rdI s).1]) (rdI s).2 := by
  rw [nInv] at h ⊢
  rw [h, show n - j = (n - (j + 1)) + 1 from by omega, rdNs]
  simp
theorem rdI_error (e : Int) : (rdI (.error e)).2 = .error e := rfl
theorem rdNs_error (n : Nat) (e : Int) : (rdNs n (.error e)).2 = .error e := by
  induction n with
  | zero => rfl
  | succ n ih => rw [rdNs, rdI_error]; exact ih
def intsOf (p : List Int × RS) : List Int × RS :=
  match p with
  | (_, .error e) => ([], .error e)
  | (us, .ok r) => (us, .ok r)
theorem nInv_bad {n j : Nat} {us : List Int} {s0 : RS} {e : Int} (h : nInv n s0 j us (.error e)) : intsOf (rdNs n s0) = ([], .error e) := by
  rw [nInv, rdNs_error] at h
  rw [h]; rfl
theorem nInv_end {n : Nat} {us : List Int} {s0 : RS} {r : List UInt8} (h : nInv n s0 n us (.ok r)) : intsOf (rdNs n s0) = (us, .ok r) := by
  rw [nInv, Nat.sub_self] at h
  rw [h]; simp [rdNs, intsOf]
theorem rdInts_cases (s : RS) : (∃ e, (rdU s).2 = .error e ∧ rdInts s = ([], .error e)) ∨ (∃ r, (rdU s).2 = .ok r ∧ r.length < (rdU s).1 ∧ rdInts s = ([], .error 3)) ∨
    (∃ r, (rdU s).2 = .ok r ∧ (rdU s).1 ≤ r.length ∧ rdInts s = intsOf (rdNs (rdU s).1 (.ok r))) := by
  rw [rdInts, rdL]
  rcases hp : rdU s with ⟨n, e | r⟩
  · exact .inl ⟨e, rfl, rfl⟩
  · by_cases h : r.length < n
    · exact .inr (.inl ⟨r, rfl, h, by simp [h]⟩)
    · refine .inr (.inr ⟨r, rfl, by simpa using h, ?_⟩)
      simp only [h, if_false]
      rcases rdNs n (.ok r) with ⟨us, e | r'⟩ <;> rfl

set_option maxHeartbeats 4000000 in
set_option maxRecDepth 20000 in
theorem rlistI_any (b : Nat) (v : Value) (bs : List UInt8) (s : RS) (w : World) (h : Rst w b v bs s) (hl : bs.length ≤ 1099511627776) :
    Calls Try.prog 82 #[.pointer (some ⟨b, 0, none⟩), meth 61 b] w (LPost w b v bs (rdInts s).2 3 ((rdInts s).1.map (Value.int .i64))) := by
  unfold meth
  have hu := ruint_any b v bs s w h
  have hcase := rdInts_cases s
  generalize rdInts s = q at *
  generalize rdU s = p at *
  obtain ⟨n, s'⟩ := p
  simp only at hcase hu
  rcases hcase with ⟨e, rfl, rfl⟩ | ⟨r, rfl, hn, rfl⟩ | ⟨r, rfl, hn, rfl⟩
  · go_enter Try.func82, Try.ntmps82
    go_wp2_with fail
    refine hu.mono ?_
    rintro en w1 ⟨rfl, h1, h2⟩
    obtain ⟨a1, he, h3⟩ := h1.bad_inv
    have hc2 := h3.cell2
    have hne : (e == 0) = false := by simpa using he
    go_wp2_with fail
    go_ret
    exact ⟨_, rfl, World.ownsRow_nil _ _ _ _, h1, h2⟩
  · have HN := Lib.hid hn
    clear hn
    go_enter Try.func82, Try.ntmps82
    go_wp2_with fail
    refine hu.mono ?_
    rintro en w1 ⟨rfl, h1, h2⟩
    obtain ⟨k, hk, hr, h3⟩ := h1.ok_inv
    subst hr
    have hc0 := h3.cell0
    have hc1 := h3.cell1
    have hc2 := h3.cell2
    have hf2 := h3.frozen 2
    obtain ⟨ao, cap, rfl, hcap, hrd⟩ := h3.2.1.opened
    have hgt : decide ((bs.length : Int) - (k : Int) < (n : Int)) = true := decide_eq_true (by have := HN.out; rw [List.length_drop] at this; omega)
    go_wp2_with fail
    go_quiet (fail)
    go_wp2_with fail
    go_ret
    exact ⟨_, rfl, World.ownsRow_nil _ _ _ _, .bad _ 3 (by decide) ((h3.drewN nq).err 3), (h2.drewN nq).set 2 _⟩
  · have HN := Lib.hid hn
    clear hn
    go_enter Try.func82, Try.ntmps82
    go_wp2_with fail
    refine hu.mono ?_
    rintro en w1 ⟨rfl, h1, h2⟩
    obtain ⟨k, hk, hr, h3⟩ := h1.ok_inv
    subst hr
    have hc0 := h3.cell0
    have hc1 := h3.cell1
    have hc2 := h3.cell2
    obtain ⟨ao, cap, rfl, hcap, hrd⟩ := h3.2.1.opened
    have hnk : k + n ≤ bs.length := by have := HN.out; rw [List.length_drop] at this; omega
    have hgt : decide ((bs.length : Int) - (k : Int) < (n : Int)) = false := decide_eq_false (by omega)
    have hsz1 := h2.size
    go_wp2_with fail
    go_quiet (fail)
    go_wp2_with (refine wpList_mk _ Try.elI rfl _ _ rfl w.heap.size _ _ n rfl rfl (by omega) (by simpa using hsz1) ?_; intro aol w2 hown2 hg2)
    have h4 : Rr w2 b (.slice ao bs.length cap) bs (k : Int) 0 ∧ BStep b w w2 := by
      have hb : Below w.heap.size (w1.drewN nq) w2 := (Below.refl _ _).grown hg2 (by simpa using hsz1) (fun _ e => by cases e)
      exact ⟨(h3.drewN nq).next h (h2.drewN nq) hb, (h2.drewN nq).later hb⟩
    clear hg2 hu h1 h3 hc0 hc1 hc2 hrd h2
    obtain ⟨h4, hB4⟩ := h4
    go_loopw [6, 33] (fun lv iv wr => ∃ (j : Nat) (us : List Int) (k2 : Nat), j ≤ n ∧ iv = .int .u64 (j : Int) ∧ us.length = j ∧ wr.ownsRow w.heap.size 3 1 lv j (us.map (Value.int .i64)) ∧ k2 ≤ bs.length ∧ Rr wr b (.slice ao bs.length cap) bs (k2 : Int) 0 ∧ BStep b w wr ∧ Hid (nInv n (.ok (bs.drop k)) j us (.ok (bs.drop k2)))) (fun _ iv _ => n - (intOf iv).toNat)
    case atStart => exact ⟨0, [], k, Nat.zero_le _, rfl, rfl, hown2, hk, h4, hB4, nInv_start _ _⟩
    case round =>
      obtain ⟨j, us, k2, hj, rfl, hul, hown, hk2, hr, hB, HI⟩ := hrel
      by_cases hlt : j < n
      · have ho := rint_any b _ bs _ _ (.ok k2 hk2 hr)
        have hst := nInv_step HI.out hlt
        generalize hx : rdI (.ok (bs.drop k2)) = x at *
        obtain ⟨x, s5⟩ := x
        simp only at ho hst
        have HT := Lib.hid hst
        clear hst hx
        have hsz := hB.size
        have hbl := h.lt
        rcases s5 with e | l5
        · go_wp2_with (first
            | (go_at_call 61; refine ho.mono ?_; rintro en w5 ⟨rfl, h5, hB5⟩; obtain ⟨a5, he5, hr5⟩ := h5.bad_inv; have hne : (e == 0) = false := by simpa using he5
               have hs5 := hB5.size; have hown5 := own_bstep hown hB5 hbl)
            | (at_builtin; refine wpList_app _ rfl _ _ rfl Try.elI w.heap.size _ j _ rfl (hown5.alloc _) _ 1 [_] rfl (Rv.one _ _ _) rfl (ones1 _ rfl) (by omega) (by simp; omega) ?_; intro v6 w6 hown6 hg6 _; have hb6 : Below w.heap.size w5 w6 := ((Below.refl _ w5).alloc (by omega) _).grown hg6 (by simp; omega) (fun g hg => (hown5.lt g hg).1); have hr6 := hr5.next h (hB.trans hB5) hb6; have hc6 := hr6.cell2))
          go_ret
          rw [nInv_bad HT.out]
          exact ⟨_, rfl, World.ownsRow_nil _ _ _ _, .bad _ e he5 hr6, (hB.trans hB5).later hb6⟩
        · go_wp2_with (first
            | (go_at_call 61; refine ho.mono ?_; rintro en w5 ⟨rfl, h5, hB5⟩; obtain ⟨k5, hk5, hd5, hr5⟩ := h5.ok_inv; have hs5 := hB5.size; have hown5 := own_bstep hown hB5 hbl)
            | (at_builtin; refine wpList_app _ rfl _ _ rfl Try.elI w.heap.size _ j _ rfl (hown5.alloc _) _ 1 [_] rfl (Rv.one _ _ _) rfl (ones1 _ rfl) (by omega) (by simp; omega) ?_; intro v6 w6 hown6 hg6 _; have hb6 : Below w.heap.size w5 w6 := ((Below.refl _ w5).alloc (by omega) _).grown hg6 (by simp; omega) (fun g hg => (hown5.lt g hg).1); have hr6 := hr5.next h (hB.trans hB5) hb6; have hc6 := hr6.cell2))
          subst hd5
          go_roundw
          case rel =>
            refine ⟨j + 1, us ++ [x], k5, hlt, by go_num, by simp [hul], ?_, hk5, hr6, (hB.trans hB5).later hb6, HT.out⟩
            rw [List.map_append]
            exact hown6
          case measure => simp [intOf]; omega
      · obtain rfl : j = n := by omega
        go_wp2_with fail
        go_ret
        rw [nInv_end HI.out]
        refine ⟨_, rfl, ?_, .ok k2 hk2 hr, hB⟩
        have : (us.map (Value.int .i64)).length = j := by simpa using hul
        show World.ownsRow _ _ _ _ _ (us.map (Value.int .i64)).length _
        rw [this]; exact hown
end Go.Proofs.Ytpehnggglolnoaa

/- Contracts of wire.Reader: Raw, Ints, Text, and wire.Read. -/
namespace Go.Proofs.Ytpehnggglolnoaa
open Go.RowKit

theorem rraw_any (b : Nat) (v : Value) (bs : List UInt8) (s : RS) (w : World) (h : Rst w b v bs s) (hl : bs.length ≤ 1099511627776) :
    Calls Try.prog 37 #[.pointer (some ⟨b, 0, none⟩)] w (LPost w b v bs (rdRaw s).2 5 ((rdRaw s).1.map vB)) := by
  have hmf : ∀ (fn : Fn) (first cap : Array Value) (w : World), (Instr.makeFunc fn first cap).run Try.prog w = .ok (.func fn first cap) w := fun _ _ _ _ => rfl
  have hc := rlistB_any b v bs s w h hl
  unfold meth at hc
  go_enter Try.func37, Try.ntmps37
  go_wp2_with fail
  refine hc.mono ?_
  rintro en w1 ⟨v1, rfl, h1⟩
  go_wp2_with fail
  go_ret
  exact ⟨_, rfl, h1⟩

theorem rints_any (b : Nat) (v : Value) (bs : List UInt8) (s : RS) (w : World) (h : Rst w b v bs s) (hl : bs.length ≤ 1099511627776) :
    Calls Try.prog 62 #[.pointer (some ⟨b, 0, none⟩)] w (LPost w b v bs (rdInts s).2 3 ((rdInts s).1.map (Value.int .i64))) := by
  have hmf : ∀ (fn : Fn) (first cap : Array Value) (w : World), (Instr.makeFunc fn first cap).run Try.prog w = .ok (.func fn first cap) w := fun _ _ _ _ => rfl
  have hc := rlistI_any b v bs s w h hl
  unfold meth at hc
  go_enter Try.func62, Try.ntmps62
  go_wp2_with fail
  refine hc.mono ?_
  rintro en w1 ⟨v1, rfl, h1⟩
  go_wp2_with fail
  go_ret
  exact ⟨_, rfl, h1⟩

/-- What Read makes: a Reader at the beginning of its own copy. -/
def NewR (w : World) (bs : List UInt8) (en : Ending) (w' : World) : Prop :=
  ∃ b v, en = .returned (.pointer (some ⟨b, 0, none⟩)) ∧ w.heap.size ≤ b ∧ (∀ g, v.ownBlock = some g → w.heap.size ≤ g ∧ g < b) ∧ Rst w' b v bs (.ok bs) ∧ Below w.heap.size w w'

set_option maxHeartbeats 1000000 in
theorem read_any (c : Value) (bs : List UInt8) (w : World) (hc : Rv w c bs.length (bs.map vB)) (hl : bs.length ≤ 140737488355328) :
    Calls Try.prog 36 #[c] w (NewR w bs) := by
  obtain ⟨ao, cap, rfl, hcap, hrd⟩ := hc.opened
  go_enter Try.func36, Try.ntmps36
  go_wp2_with (at_builtin; refine wpList_app _ rfl _ _ rfl Try.elB w.heap.size _ 0 _ rfl (own_empty w _) _ bs.length _ rfl (hc.below ((Below.refl _ _).alloc (Nat.le_refl _) _)) (by simp) (ones_B _) (by omega) (by simp) ?_; intro v2 w2 hown hg _; obtain ⟨k2, ao2, cap2, rfl⟩ := own_shape hown)
  have hb2 : Below w.heap.size w w2 := ((Below.refl _ w).alloc (Nat.le_refl _) _).grown hg (by simp) (fun g hg' => by cases hg'; exact Nat.le_refl _)
  go_ret
  refine ⟨_, .slice ao2 k2 cap2, rfl, hb2.size, fun g hg => hown.lt g hg, ?_, hb2.alloc hb2.size _⟩
  have hown2 : w2.ownsRow w.heap.size 5 1 (.slice ao2 k2 cap2) bs.length (bs.map vB) := by simpa using hown
  refine .ok (bs := bs) 0 (Nat.zero_le _) ⟨World.alloc_heap_new w2 _, (Rv.of_own hown2).below ((Below.refl _ w2).alloc (Nat.le_refl _) _), fun e => ?_⟩
  have := (hown.lt _ e).2
  omega
end Go.Proofs.Ytpehnggglolnoaa
