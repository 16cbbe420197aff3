/- Lists of messages under Feed and under append. -/
import Derived.Test.YtadhghikanjkeaaPrtY
namespace Go.Proofs.Ytadhghikanjkeaa
open Go.RowKit

section
variable {N : Nat} {W W' : World} {g g' x : Value} {G L : List MV} {q : Nat} {hv hv' : Value}
/-- A list lies as it lay behind a call that turns the reader alone. -/
theorem MsV.step (h : MsV N W g G) (S : WStep W W' q hv hv') (hq : q < N) (ha : Apart hv g G) : MsV N W' g G := by
  have far : ∀ (v : Value) (n : Nat) (us : List Value), Rv W v n us → (∀ b, v.ownBlock = some b → N ≤ b ∧ b < W.heap.size ∧ hv.ownBlock ≠ some b) → Rv W' v n us := by
    intro v n us hr hb
    obtain ⟨ao, cap, rfl, h1, h3, h4, h5⟩ := hr
    refine ⟨ao, cap, rfl, h1, h3, h4, ?_⟩
    rcases h5 with h5 | ⟨b, off, rfl, h5⟩
    · exact .inl h5
    · refine .inr ⟨b, off, rfl, fun i u hi => ?_⟩
      obtain ⟨b1, b2, b3⟩ := hb b rfl
      have hc := h5 i u hi
      unfold World.cell? at hc ⊢
      rw [S.block b b2 (by omega) (fun e => b3 e.symm)]
      exact hc
  refine ⟨?_, fun p hp => ⟨far _ _ _ (h.rd p hp).body (fun b hb => ?_), far _ _ _ (h.rd p hp).fnd (fun b hb => ?_)⟩, fun p hp b hb => ?_⟩
  · obtain ⟨hl, h0 | ⟨b, cap, cur, rfl, hb1, hg1, hn, hc, hs', ht⟩⟩ := h.own
    · exact ⟨hl, .inl h0⟩
    · exact ⟨hl, .inr ⟨b, cap, cur, rfl, hb1, (S.block b (Array.getElem?_eq_some_iff.1 hg1).1 (by omega) (fun e => (ha b e.symm).1 rfl)).trans hg1, hn, hc, hs', ht⟩⟩
  · have := h.low p hp b (.inl hb)
    exact ⟨this.1, this.2.1, fun e => ((ha b e).2 p hp).1 hb⟩
  · have := h.low p hp b (.inr hb)
    exact ⟨this.1, this.2.1, fun e => ((ha b e).2 p hp).2 hb⟩
  · have := h.low p hp b hb
    exact ⟨this.1, Nat.lt_of_lt_of_le this.2.1 S.size, this.2.2⟩
theorem Apart.step (h : Apart hv g G) (M : MsV N W g G) (S : WStep W W' q hv hv') : Apart hv' g G := by
  intro b hb
  rcases S.own with hs | hs
  · rw [hs] at hb; exact h b hb
  · have hbs := hs b hb
    exact ⟨fun e => by have := (M.own.lt b e).2; omega, fun p hp => ⟨fun e => by have := (M.low p hp b (.inl e)).2.1; omega, fun e => by have := (M.low p hp b (.inr e)).2.1; omega⟩⟩
/-- append(g, x...). -/
theorem MsV.join (h : MsV N W g G) (hx : MsV N W x L) (ho : W'.ownsRow N 33 6 g' (G.length + L.length) (mvcells G ++ mvcells L)) (hg : W.grownBy W' g.ownBlock) (hs : SameOrNew W g g')
    (hxg : ∀ p ∈ L, ∀ b, (p.body.ownBlock = some b ∨ p.fnd.ownBlock = some b) → g.ownBlock ≠ some b) : MsV N W' g' (G ++ L) := by
  have all : ∀ p ∈ G ++ L, Cells6 W p.m p.ab p.af p.cb p.cf ∧ ∀ b, (p.body.ownBlock = some b ∨ p.fnd.ownBlock = some b) → N ≤ b ∧ b < W.heap.size ∧ g.ownBlock ≠ some b := fun p hp => by
    rcases List.mem_append.1 hp with hp | hp
    · exact ⟨h.rd p hp, h.low p hp⟩
    · exact ⟨hx.rd p hp, fun b hb => ⟨(hx.low p hp b hb).1, (hx.low p hp b hb).2.1, hxg p hp b hb⟩⟩
  refine ⟨?_, fun p hp => ?_, fun p hp b hb => ?_⟩
  · have e : mvcells (G ++ L) = mvcells G ++ mvcells L := by simp [mvcells]
    rw [e, List.length_append]
    exact ho
  · obtain ⟨hc, hl⟩ := all p hp
    exact ⟨rvGrown hc.body hg (by
      cases hb : g.ownBlock with
      | none => exact .inl rfl
      | some c => exact .inr fun e => (hl c (.inl e.symm)).2.2 hb), rvGrown hc.fnd hg (by
      cases hb : g.ownBlock with
      | none => exact .inl rfl
      | some c => exact .inr fun e => (hl c (.inr e.symm)).2.2 hb)⟩
  · obtain ⟨_, hl⟩ := all p hp
    obtain ⟨h1, h2, h3⟩ := hl b hb
    refine ⟨h1, Nat.lt_of_lt_of_le h2 hg.size, fun e => ?_⟩
    rcases hs with hs | hs
    · rw [hs] at e; exact h3 e
    · have := hs b e; omega
/-- What is held stays apart from the joined list. -/
theorem Apart.join (h1 : Apart hv g G) (h2 : Apart hv x L) (hs : SameOrNew W g g') (hlt : ∀ b, hv.ownBlock = some b → b < W.heap.size) : Apart hv g' (G ++ L) := by
  intro b hb
  refine ⟨fun e => ?_, fun p hp => ?_⟩
  · rcases hs with hs | hs
    · rw [hs] at e; exact (h1 b hb).1 e
    · have := hs b e; have := hlt b hb; omega
  · rcases List.mem_append.1 hp with hp | hp
    · exact (h1 b hb).2 p hp
    · exact (h2 b hb).2 p hp
/-- A reader's block lies as it lay, and what it holds, when another row grows. -/
theorem PRd.grown {held : List UInt8} {err : Int} (h : PRd W q hv held err) (hg : W.grownBy W' g.ownBlock) (hq : ∀ b, g.ownBlock = some b → q < b) (ha : ∀ b, hv.ownBlock = some b → g.ownBlock ≠ some b) : PRd W' q hv held err :=
  ⟨(hg.block q h.lt (fun e => by have := hq q e.symm; omega)).trans h.blk, ownGrown h.own hg (fun b hb => ha b hb)⟩
end
end Go.Proofs.Ytadhghikanjkeaa
