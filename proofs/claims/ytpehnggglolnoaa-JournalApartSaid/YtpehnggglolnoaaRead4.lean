/- Contracts of wire.Reader: Raw, Ints, Text, and wire.Read. -/
import Derived.Test.YtpehnggglolnoaaRead3
namespace Go.Proofs.Ytpehnggglolnoaa
open Go.RowKit

theorem rraw_any (b : Nat) (v : Value) (bs : List UInt8) (s : RS) (w : World) (h : Rst w b v bs s) (hl : bs.length ≤ 1099511627776) :
    Calls Try.prog 37 #[.pointer (some ⟨b, 0, none⟩)] w (LPost w b v bs (rdRaw s).2 5 ((rdRaw s).1.map vB)) := by
  have hmf : ∀ (fn : Fn) (first cap : Array Value) (w : World), (Instr.makeFunc fn first cap).run Try.prog w = .ok (.func fn first cap) w := fun _ _ _ _ => rfl
  have hc := rlistB_any b v bs s w h hl
  unfold meth at hc
  go_enter Try.func37, Try.ntmps37
  go_wp2_with fail
  refine hc.mono ?_
  rintro en w1 ⟨v1, rfl, h1⟩
  go_wp2_with fail
  go_ret
  exact ⟨_, rfl, h1⟩

theorem rints_any (b : Nat) (v : Value) (bs : List UInt8) (s : RS) (w : World) (h : Rst w b v bs s) (hl : bs.length ≤ 1099511627776) :
    Calls Try.prog 62 #[.pointer (some ⟨b, 0, none⟩)] w (LPost w b v bs (rdInts s).2 3 ((rdInts s).1.map (Value.int .i64))) := by
  have hmf : ∀ (fn : Fn) (first cap : Array Value) (w : World), (Instr.makeFunc fn first cap).run Try.prog w = .ok (.func fn first cap) w := fun _ _ _ _ => rfl
  have hc := rlistI_any b v bs s w h hl
  unfold meth at hc
  go_enter Try.func62, Try.ntmps62
  go_wp2_with fail
  refine hc.mono ?_
  rintro en w1 ⟨v1, rfl, h1⟩
  go_wp2_with fail
  go_ret
  exact ⟨_, rfl, h1⟩

/-- What Read makes: a Reader at the beginning of its own copy. -/
def NewR (w : World) (bs : List UInt8) (en : Ending) (w' : World) : Prop :=
  ∃ b v, en = .returned (.pointer (some ⟨b, 0, none⟩)) ∧ w.heap.size ≤ b ∧ (∀ g, v.ownBlock = some g → w.heap.size ≤ g ∧ g < b) ∧ Rst w' b v bs (.ok bs) ∧ Below w.heap.size w w'

set_option maxHeartbeats 1000000 in
theorem read_any (c : Value) (bs : List UInt8) (w : World) (hc : Rv w c bs.length (bs.map vB)) (hl : bs.length ≤ 140737488355328) :
    Calls Try.prog 36 #[c] w (NewR w bs) := by
  obtain ⟨ao, cap, rfl, hcap, hrd⟩ := hc.opened
  go_enter Try.func36, Try.ntmps36
  go_wp2_with (at_builtin; refine wpList_app _ rfl _ _ rfl Try.elB w.heap.size _ 0 _ rfl (own_empty w _) _ bs.length _ rfl (hc.below ((Below.refl _ _).alloc (Nat.le_refl _) _)) (by simp) (ones_B _) (by omega) (by simp) ?_; intro v2 w2 hown hg _; obtain ⟨k2, ao2, cap2, rfl⟩ := own_shape hown)
  have hb2 : Below w.heap.size w w2 := ((Below.refl _ w).alloc (Nat.le_refl _) _).grown hg (by simp) (fun g hg' => by cases hg'; exact Nat.le_refl _)
  go_ret
  refine ⟨_, .slice ao2 k2 cap2, rfl, hb2.size, fun g hg => hown.lt g hg, ?_, hb2.alloc hb2.size _⟩
  have hown2 : w2.ownsRow w.heap.size 5 1 (.slice ao2 k2 cap2) bs.length (bs.map vB) := by simpa using hown
  refine .ok (bs := bs) 0 (Nat.zero_le _) ⟨World.alloc_heap_new w2 _, (Rv.of_own hown2).below ((Below.refl _ w2).alloc (Nat.le_refl _) _), fun e => ?_⟩
  have := (hown.lt _ e).2
  omega
end Go.Proofs.Ytpehnggglolnoaa
