/- The lists and the errors of several readers. -/
import Derived.Test.YtadhghikanjkeaaPrtZb
namespace Go.Proofs.Ytadhghikanjkeaa
open Go.RowKit

theorem Try.infoL : (Try.prog.info? 65).map (fun i => (i.zero, i.size, i.bytes)) = some (some (.slice none 0 0), 1, 24) := by kernel_rfl
theorem Try.elL : Elem Try.prog 61 65 (.slice none 0 0) 1 24 := ⟨Try.underlying61, Try.infoL, rfl, by decide, by decide⟩
theorem Try.infoE : (Try.prog.info? 24).map (fun i => (i.zero, i.size, i.bytes)) = some (some (.int .i64 0), 1, 8) := by kernel_rfl
theorem Try.elE : Elem Try.prog 62 24 (.int .i64 0) 1 8 := ⟨Try.underlying62, Try.infoE, rfl, by decide, by decide⟩
theorem rv_litH (w : World) (us : List Value) (e : TypeId) (n : Nat) (hm : n ≤ maxLen) (H : Nat) (hH : w.heap.size = H) : Rv (w.alloc (.cells us.toArray e)) (.slice (some ⟨H, 0, none⟩) n n) n us := by
  subst hH
  exact Rv.lit w us e n hm

theorem Fs.whole {N : Nat} {W0 W : World} {hv gv : Value} {held : List UInt8} {err : Int} {G : List MV} {X : List UInt8} (h : Fs N W0 W hv gv held err G X) (hX : 0 < X.length) : G.map MV.m = (feedP X).1 ∧ err = (feedP X).2.2 := by
  obtain ⟨ps, h1, h2, h3⟩ := h.ps.out
  obtain ⟨h4, h5⟩ := fed_whole ps X h1 (h2 hX)
  rw [h3] at h4 h5
  exact ⟨h4, h5⟩
theorem MsV.grown {N : Nat} {W W' : World} {v : Value} {l : List MV} {row : Option Nat} (h : MsV N W v l) (hg : W.grownBy W' row) (hr : ∀ b, row = some b → v.ownBlock ≠ some b ∧ ∀ x ∈ l, x.body.ownBlock ≠ some b ∧ x.fnd.ownBlock ≠ some b) : MsV N W' v l := by
  have other : ∀ u : Value, (∀ b, row = some b → u.ownBlock ≠ some b) → row = none ∨ row ≠ u.ownBlock := fun u hu => by
    cases hb : row with
    | none => exact .inl rfl
    | some c => exact .inr fun e => hu c hb e.symm
  exact ⟨ownGrown h.own hg (fun b hb e => (hr b e).1 hb), fun p hp => ⟨rvGrown (h.rd p hp).body hg (other _ fun b hb => ((hr b hb).2 p hp).1), rvGrown (h.rd p hp).fnd hg (other _ fun b hb => ((hr b hb).2 p hp).2)⟩,
    fun p hp b hb => ⟨(h.low p hp b hb).1, Nat.lt_of_lt_of_le (h.low p hp b hb).2.1 hg.size, (h.low p hp b hb).2.2⟩⟩

/-- The lists and the errors of the ways that are through (k errors). -/
structure OSt (N : Nat) (W : World) (lv ev : Value) (vs : List (Value × List MV)) (k : Nat) (M : List Msg) (E : Int) : Prop where
  ol : W.ownsRow N 65 1 lv vs.length (vs.map Prod.fst)
  oe : W.ownsRow N 24 1 ev k (List.replicate k (.int .i64 E))
  el : ∀ p ∈ vs, MsV N W p.1 p.2 ∧ p.2.map MV.m = M
  far : ∀ p ∈ vs, ∀ b, (lv.ownBlock = some b ∨ ev.ownBlock = some b) → p.1.ownBlock ≠ some b ∧ ∀ x ∈ p.2, x.body.ownBlock ≠ some b ∧ x.fnd.ownBlock ≠ some b
  le : ∀ b, lv.ownBlock = some b → ev.ownBlock ≠ some b
section
variable {N k : Nat} {W W' : World} {lv ev lv' ev' gv : Value} {vs : List (Value × List MV)} {M : List Msg} {E : Int} {G : List MV}
theorem OSt.later (h : OSt N W lv ev vs k M E) (B : Below W.heap.size W W') : OSt N W' lv ev vs k M E :=
  ⟨own_below h.ol B, own_below h.oe B, fun p hp => ⟨(h.el p hp).1.later B, (h.el p hp).2⟩, h.far, h.le⟩
theorem OSt.start (N : Nat) (W : World) (M : List Msg) (E : Int) : OSt N W (.slice none 0 0) (.slice none 0 0) [] 0 M E :=
  ⟨World.ownsRow_nil _ _ _ _, World.ownsRow_nil _ _ _ _, (fun _ h => by cases h), (fun _ h => by cases h), (fun _ h => by cases h)⟩
/-- A list more. -/
theorem OSt.app1 (h : OSt N W lv ev vs k M E) (MG : MsV N W gv G) (hM : G.map MV.m = M) (hf : ∀ b, (lv.ownBlock = some b ∨ ev.ownBlock = some b) → gv.ownBlock ≠ some b ∧ ∀ x ∈ G, x.body.ownBlock ≠ some b ∧ x.fnd.ownBlock ≠ some b)
    (O : W'.ownsRow N 65 1 lv' (vs.length + 1) (vs.map Prod.fst ++ [gv])) (g : W.grownBy W' lv.ownBlock) (s : SameOrNew W lv lv') : OSt N W' lv' ev (vs ++ [(gv, G)]) k M E := by
  have all : ∀ p ∈ vs ++ [(gv, G)], (MsV N W p.1 p.2 ∧ p.2.map MV.m = M) ∧ ∀ b, (lv.ownBlock = some b ∨ ev.ownBlock = some b) → p.1.ownBlock ≠ some b ∧ ∀ x ∈ p.2, x.body.ownBlock ≠ some b ∧ x.fnd.ownBlock ≠ some b := fun p hp => by
    rcases List.mem_append.1 hp with hp | hp
    · exact ⟨h.el p hp, h.far p hp⟩
    · obtain rfl := List.mem_singleton.1 hp
      exact ⟨⟨MG, hM⟩, hf⟩
  refine ⟨?_, ownGrown h.oe g (fun b hb e => h.le b e hb), fun p hp => ?_, fun p hp b hb => ?_, fun b hb e => ?_⟩
  · rw [List.length_append, List.map_append]; exact O
  · obtain ⟨⟨h1, h2⟩, h3⟩ := all p hp
    exact ⟨h1.grown g (fun b hb => h3 b (.inl hb)), h2⟩
  · obtain ⟨⟨h1, _⟩, h3⟩ := all p hp
    rcases hb with hb | hb
    · rcases s with s | s
      · rw [s] at hb; exact h3 b (.inl hb)
      · have hs := s b hb
        exact ⟨fun e => by have := (h1.own.lt b e).2; omega, fun x hx => ⟨fun e => by have := (h1.low x hx b (.inl e)).2.1; omega, fun e => by have := (h1.low x hx b (.inr e)).2.1; omega⟩⟩
    · exact h3 b (.inr hb)
  · rcases s with s | s
    · rw [s] at hb; exact h.le b hb e
    · have := s b hb; have := (h.oe.lt b e).2; omega
/-- An error more. -/
theorem OSt.app2 (h : OSt N W lv ev vs k M E) (O : W'.ownsRow N 24 1 ev' (k + 1) (List.replicate k (.int .i64 E) ++ [.int .i64 E])) (g : W.grownBy W' ev.ownBlock) (s : SameOrNew W ev ev') : OSt N W' lv ev' vs (k + 1) M E := by
  refine ⟨ownGrown h.ol g (fun b hb e => h.le b hb e), ?_, fun p hp => ?_, fun p hp b hb => ?_, fun b hb e => ?_⟩
  · rw [List.replicate_succ']; exact O
  · exact ⟨(h.el p hp).1.grown g (fun b hb => h.far p hp b (.inr hb)), (h.el p hp).2⟩
  · rcases hb with hb | hb
    · exact h.far p hp b (.inl hb)
    · rcases s with s | s
      · rw [s] at hb; exact h.far p hp b (.inr hb)
      · have hs := s b hb
        have h1 := (h.el p hp).1
        exact ⟨fun e => by have := (h1.own.lt b e).2; omega, fun x hx => ⟨fun e => by have := (h1.low x hx b (.inl e)).2.1; omega, fun e => by have := (h1.low x hx b (.inr e)).2.1; omega⟩⟩
  · rcases s with s | s
    · rw [s] at e; exact h.le b hb e
    · have := s b e; have := (h.ol.lt b hb).2; omega
end
end Go.Proofs.Ytadhghikanjkeaa
