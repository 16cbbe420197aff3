/- rexmillref02.Reader: Ints. -/
import Derived.Test.YtofgcoapbocneaaMod4
namespace Go.Proofs.Ytofgcoapbocneaa
open Go.RowKit

def MInts (w : World) (b D : Nat) (q : List Int × RS) (en : Ending) (w' : World) : Prop :=
  ∃ v', en = .returned v' ∧ w'.ownsRow w.heap.size 3 1 v' q.1.length (q.1.map (Value.int .i64)) ∧ Mst w' b D q.2 ∧ BStep b w w'

set_option maxHeartbeats 4000000 in
set_option maxRecDepth 20000 in
theorem mints_any (b D : Nat) (hD : D ≤ b) (s : RS) (w : World) (h : Mst w b D s) (hl : left s ≤ 1000000) :
    Calls Try.prog 52 #[.pointer (some ⟨b, 0, none⟩)] w (MInts w b D (rdInts s)) := by
  have hbw := h.lt
  have hu := mlen_any b D hD s w h
  have hx : (∃ n r, rdL s = (n, .ok r) ∧ n ≤ 1000000 ∧ rdInts s = intsOf (rdNs n (.ok r))) ∨ ∃ e, rdL s = (0, .error e) ∧ rdInts s = ([], .error e) := by
    have hle := rdU_left s
    rcases rdL_cases s with ⟨e, _, h2⟩ | ⟨r, _, _, h2⟩ | ⟨r, h0, h1, h2⟩
    · exact .inr ⟨e, h2, by rw [rdInts, h2]⟩
    · exact .inr ⟨3, h2, by rw [rdInts, h2]⟩
    · rw [h0] at hle
      have hle' : r.length ≤ left s := hle
      exact .inl ⟨_, r, h2, by omega, by rw [rdInts, h2]; rfl⟩
  clear hl
  rcases hx with ⟨n, r, hl, hn, hr⟩ | ⟨e, hl, hr⟩
  · rw [hl] at hu
    rw [hr]
    go_enter Try.func52, Try.ntmps52
    go_wp2_with fail
    refine hu.mono ?_
    rintro en w1 ⟨rfl, T1, S1⟩
    go_wp2_with fail
    go_loopw [4, 5] (fun lv iv wr => ∃ (j : Nat) (us : List Int) (s5 : RS), iv = .int .i64 (j : Int) ∧ j ≤ n ∧ Hid (us.length = j) ∧ wr.ownsRow w.heap.size 3 1 lv us.length (us.map (Value.int .i64)) ∧ Mst wr b D s5 ∧ BStep b w wr ∧ Hid (nInv n (.ok r) j us s5)) (fun _ iv _ => n - (intOf iv).toNat)
    case atStart => exact ⟨0, [], _, rfl, Nat.zero_le _, rfl, World.ownsRow_nil _ _ _ _, T1, S1, nInv_start _ _⟩
    case round =>
      obtain ⟨j, us, s5, rfl, hj, HJ, hown, T5, S5, HI⟩ := hrel
      have hul : us.length ≤ 1000000 := by have := HJ.out; omega
      cases s5 with
      | error e =>
        obtain ⟨v, l, he, h0⟩ := T5.bad_inv
        have hc1 := h0.cell1
        have hne : (e == 0) = false := by simpa using he
        have hne2 : (e != 0) = true := by simpa using he
        have hbad := nInv_bad HI.out
        by_cases hlt : j < n
        all_goals
          go_wp2_with fail
          go_ret
          rw [hbad]
          exact ⟨_, rfl, World.ownsRow_nil _ _ _ _, T5, S5⟩
      | ok r5 =>
        obtain ⟨v, h0⟩ := T5.ok_inv
        have hc1 := h0.cell1
        by_cases hlt : j < n
        · have hst := Lib.hid (nInv_step HI.out hlt)
          go_wp2_with fail
          refine (mint_any b D hD _ _ T5).mono ?_
          rintro e w6 ⟨rfl, T6, S6⟩
          generalize rdI (.ok r5) = x at *
          obtain ⟨x, s6⟩ := x
          simp only at T6 hst ⊢
          have hown6 := own_bstep hown S6 hbw
          have S56 := S5.trans S6
          have hsz := S56.size
          clear hc1
          go_wp2_with (at_builtin; refine wpList_app _ rfl _ _ rfl Try.elI w.heap.size u4 us.length _ rfl (own_below hown6 ((Below.refl _ w6).alloc (Nat.le_refl _) _)) (.slice (some ⟨w6.heap.size, 0, none⟩) 1 1) 1 [.int .i64 x] rfl (Rv.one _ _ _) rfl (ones1 _ rfl) (by omega) (by simp; omega) ?_; intro v7 w7 hown7 hg7 _)
          have B7 : Below w.heap.size w6 w7 := ((Below.refl _ w6).alloc hsz _).grown hg7 (by simp; omega) (fun g e => (hown6.lt g e).1)
          have T7 : Mst w7 b D s6 := by
            cases T6 with
            | ok h => exact .ok ⟨(B7.block b hbw).trans h.hp, h.rv.belowb B7 (fun g e => by have := h.lo g e; omega), h.lo⟩
            | bad he h => exact .bad he ⟨(B7.block b hbw).trans h.hp, h.rv.belowb B7 (fun g e => by have := h.lo g e; omega), h.lo⟩
          go_roundw
          case rel => exact ⟨j + 1, us ++ [x], s6, by go_num, by omega, snoc_hid HJ _, by simpa using hown7, T7, S56.later B7, hst⟩
          case measure => simp [intOf]; omega
        · obtain rfl : j = n := by omega
          have hend := nInv_end HI.out
          go_wp2_with fail
          go_ret
          rw [hend]
          exact ⟨_, rfl, hown, T5, S5⟩
  · rw [hl] at hu
    rw [hr]
    go_enter Try.func52, Try.ntmps52
    go_wp2_with fail
    refine hu.mono ?_
    rintro en w1 ⟨rfl, T1, S1⟩
    obtain ⟨v, l, he, h0⟩ := T1.bad_inv
    have hc1 := h0.cell1
    have hne : (e == 0) = false := by simpa using he
    have hne2 : (e != 0) = true := by simpa using he
    go_wp2_with fail
    go_loopw [4, 5] (fun lv iv wr => lv = .slice none 0 0 ∧ iv = .int .i64 0 ∧ wr = w1) (fun _ _ _ => 0)
    case atStart => exact ⟨rfl, rfl, rfl⟩
    case round =>
      obtain ⟨rfl, rfl, rfl⟩ := hrel
      go_wp2_with fail
      go_ret
      exact ⟨_, rfl, World.ownsRow_nil _ _ _ _, T1, S1⟩
end Go.Proofs.Ytofgcoapbocneaa
