/- slices.Clone of bytes. -/
import Derived.Test.YtpehnggglolnoaaStp
import Derived.Test.YtpehnggglolnoaaLibIn
import Derived.Test.YtpehnggglolnoaaMapF
import Derived.Test.YtpehnggglolnoaaRefA
import Derived.Test.YtpehnggglolnoaaSame
import Derived.Lib.SliceRun
namespace Go.Proofs.Ytpehnggglolnoaa
open Go.RowKit

theorem own_emptyD (w : World) (e : TypeId) : (w.alloc (.cells #[] e)).ownsRow w.heap.size e 1 (.slice (some ⟨w.heap.size, 0, none⟩) 0 0) 0 [] :=
  ⟨rfl, .inr ⟨w.heap.size, 0, #[], rfl, Nat.le_refl _, World.alloc_heap_new w _, Nat.le_refl _, Nat.zero_le _, rfl, rfl⟩⟩
set_option maxRecDepth 20000 in
set_option maxHeartbeats 1000000 in
theorem cloneB_any (v : Value) (l : List UInt8) (w : World) (hv : Rv w v l.length (l.map vB)) (hl : l.length ≤ 1000000000) :
    Calls Try.prog 77 #[v] w (RetMade w 5 (l.map vB)) := by
  obtain ⟨ao, cap, rfl, hcap, hrd⟩ := hv.opened
  have hnil : ∀ (a : Option Addr) (n c : Nat), (binOp .eql 49 (.slice a n c) (.slice none 0 0)).run Try.prog w = .ok (.bool a.isNone) w := fun a n c => Lib.run_eql_slice_nil w _ _ a n c 0 0 Try.underlying49
  go_enter Try.func77, Try.ntmps77
  cases ao with
  | none =>
    have hn : l = [] := by
      obtain ⟨_, _, e, _, _, h0, _⟩ := hv
      cases e
      have := h0 rfl
      exact List.eq_nil_of_length_eq_zero (by omega)
    subst hn
    obtain ⟨_, _, e, _, _, h0, _⟩ := hv
    cases e
    obtain rfl := h0 rfl
    go_wp2_with fail
    go_ret
    exact retMade (World.ownsRow_nil _ _ _ _) rfl (Below.refl _ _)
  | some a =>
    go_wp2_with (at_builtin; refine wpList_app _ rfl _ _ rfl Try.elB w.heap.size _ 0 _ rfl (own_emptyD w _) _ l.length _ rfl (hv.below ((Below.refl _ _).alloc (Nat.le_refl _) _)) (by simp) (ones_B _) (by omega) (by simp) ?_; intro v2 w2 hown hg _)
    go_ret
    exact retMade hown (by simp) (((Below.refl _ w).alloc (Nat.le_refl _) _).grown hg (by simp) (fun g hg' => by cases hg'; exact Nat.le_refl _))
end Go.Proofs.Ytpehnggglolnoaa
