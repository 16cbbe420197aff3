/- Package pool: the contracts over all that a pool lies in; the end of PoolOnce. -/
import Derived.Test.YtfdacckkdjpjhaaPlT
namespace Go.Proofs.Ytfdacckkdjpjhaa
open Go.RowKit

/-- A pool, and all that it lies in. -/
def PZ (W : World) (p : Nat) (Z : Nat → Prop) (D : Pl) : Prop := ∃ X R, PAt W p X R D ∧ ∀ b, Z b ↔ X b ∨ R b
section
variable {W W' : World} {p : Nat} {Z Z' Y Y' X X' R R' : Nat → Prop} {D D' : Pl}
theorem PZ.ok (h : PZ W p Z D) : POk D := by obtain ⟨X, R, h, _⟩ := h; exact h.ok
theorem PZ.zl (h : PZ W p Z D) : ∀ b, Z b → b < W.heap.size := by
  obtain ⟨X, R, h, hz⟩ := h
  exact fun b hb => ((hz b).1 hb).elim (h.xl b) (h.rl b)
theorem PZ.kept (h : PZ W p Z D) (hs : W.heap.size ≤ W'.heap.size) (hb : ∀ b, Z b → W'.heap[b]? = W.heap[b]?) : PZ W' p Z D := by
  obtain ⟨X, R, ⟨_, _, _, _, _, _, _, _, h⟩, hz⟩ := h
  exact ⟨X, R, ⟨_, _, _, _, _, _, _, _, h.kept hs (fun b q => hb b ((hz b).2 (.inl q))) (fun b q => hb b ((hz b).2 (.inr q)))⟩, hz⟩
theorem PZ.later (h : PZ W p Z D) (b : Below W.heap.size W W') : PZ W' p Z D := h.kept b.size (fun x hx => b.block x (h.zl x hx))
theorem PZ.other (h : PZ W p Z D) (S : DStep Y Y' W W') (hs : ∀ b, Z b → ¬ Y b) : PZ W' p Z D := h.kept S.size (fun x hx => S.block x (h.zl x hx) (hs x hx))
theorem PZ.set (h : PZ W p Z D) {b i : Nat} (hb : ¬ Z b) (v : Value) : PZ (W.setCell ⟨b, i, none⟩ v) p Z D :=
  h.kept (by rw [World.size_setCell]; exact Nat.le_refl _) (fun x hx => Below.heap_setCell _ _ _ _ (fun e => hb (by have : x = b := e; rw [← this]; exact hx)))
theorem PAt.pz (_h : PAt W p X R D) (h' : PAt W' p X' R' D') (S : DStep X X' W W') (hr : ∀ x, R' x → R x ∨ W.heap.size ≤ x) (hz : ∀ b, Z b ↔ X b ∨ R b) : ∃ Z', PZ W' p Z' D' ∧ DStep Z Z' W W' :=
  ⟨fun b => X' b ∨ R' b, ⟨X', R', h', fun _ => Iff.rfl⟩, S.os, S.tape, S.output, S.size, fun k hk hZ => S.block k hk (fun hx => hZ ((hz k).2 (.inl hx))), fun k hk => by
    rcases hk with hk | hk
    · exact (S.grow k hk).imp (fun h => (hz k).2 (.inl h)) id
    · exact (hr k hk).imp (fun h => (hz k).2 (.inr h)) id⟩
theorem pz_new (n : Nat) (t : Int) (hn : 1 ≤ n ∧ n ≤ 64) (ht : 1 ≤ t ∧ t ≤ 1099511627776) (w : World) :
    Calls Try.prog 12 #[.int .i64 (n : Int), .int .i64 t] w fun e w' => ∃ p Z, e = .returned (.tuple #[.pointer (some ⟨p, 0, none⟩), .int .i64 0]) ∧ PZ w' p Z (newPl n t) ∧ (∀ b, Z b → w.heap.size ≤ b) ∧ Below w.heap.size w w' := by
  refine (pnew_any n t hn ht w).mono ?_
  rintro e w' ⟨p, X, rfl, h, hX, B⟩
  exact ⟨p, fun b => X b ∨ False, rfl, ⟨X, fun _ => False, h, fun _ => Iff.rfl⟩, fun b hb => hb.elim (hX b) False.elim, B⟩
theorem pz_add (id : Int) (bv : Value) (b : List UInt8) (w : World) (h : PZ w p Z D) (hid : id ≤ 9223372036854775807) (hb : Rv w bv b.length (b.map vB)) (hbl : b.length ≤ 1000000000) :
    Calls Try.prog 13 #[.pointer (some ⟨p, 0, none⟩), .agg #[.int .i64 id, bv]] w fun e w' => e = .returned (.int .i64 (D.add id b).1) ∧ ∃ Z', PZ w' p Z' (D.add id b).2 ∧ DStep Z Z' w w' := by
  obtain ⟨X, R, h, hz⟩ := h
  refine (add_any id bv b w h hid hb hbl).mono ?_
  rintro e w' ⟨rfl, X', R', h1, S, hr⟩
  exact ⟨rfl, h.pz h1 S hr hz⟩
theorem pz_ask (x t : Int) (w : World) (h : PZ w p Z D) {n : Nat} (hn : TL n D) (hn1 : n ≤ 1000000000) :
    Calls Try.prog 15 #[.pointer (some ⟨p, 0, none⟩), .int .i64 x, .int .i64 t] w fun e w' => ∃ bv Z', e = .returned (.tuple #[.agg #[.int .i64 (D.ask x t).1.id, bv], .int .i64 (D.ask x t).1.n, .bool (D.ask x t).1.is, .int .i64 (D.ask x t).1.err]) ∧
      w'.ownsRow w.heap.size 5 1 bv (D.ask x t).1.body.length ((D.ask x t).1.body.map vB) ∧ PZ w' p Z' (D.ask x t).2 ∧ DStep Z Z' w w' ∧ Off bv Z' := by
  obtain ⟨X, R, h, hz⟩ := h
  refine (ask_any x t w h (fun k e hk => Nat.le_trans (hn k e hk) hn1)).mono ?_
  rintro e w' ⟨bv, X', rfl, hO, h1, S, hoff⟩
  refine ⟨bv, fun b => X' b ∨ R b, rfl, hO, ⟨X', R, h1, fun _ => Iff.rfl⟩, ⟨S.os, S.tape, S.output, S.size, fun k hk hZ => S.block k hk (fun hx => hZ ((hz k).2 (.inl hx))), fun k hk => ?_⟩, fun b hb hx => ?_⟩
  · rcases hk with hk | hk
    · exact (S.grow k hk).imp (fun h => (hz k).2 (.inl h)) id
    · exact .inl ((hz k).2 (.inr hk))
  · rcases hx with hx | hx
    · exact hoff b hb hx
    · have h1 := (hO.lt b hb).1
      have h2 := h.rl b hx
      omega
theorem pz_answer (task worker tr : Int) (bv : Value) (b : List UInt8) (t : Int) (w : World) (h : PZ w p Z D) (htr : -9223372036854775808 ≤ tr ∧ tr ≤ 9223372036854775807) (hb : Rv w bv b.length (b.map vB)) (hbl : b.length ≤ 1000000000) (hsp : Off bv Z) :
    Calls Try.prog 16 #[.pointer (some ⟨p, 0, none⟩), .agg #[.int .i64 task, .int .i64 worker, .int .i64 tr, bv], .int .i64 t] w fun e w' => e = .returned (.tuple #[.bool (D.answer task worker tr b t).1, .int .i64 (D.answer task worker tr b t).2.1]) ∧
      ∃ Z', PZ w' p Z' (D.answer task worker tr b t).2.2 ∧ DStep Z Z' w w' := by
  obtain ⟨X, R, h, hz⟩ := h
  refine (answer_any task worker tr bv b t w h htr hb hbl (fun g hg hx => hsp g hg ((hz g).2 (.inl hx)))).mono ?_
  rintro e w' ⟨rfl, R', h1, S, hr⟩
  exact ⟨rfl, h.pz h1 S hr hz⟩
theorem pz_die (x t : Int) (w : World) (h : PZ w p Z D) :
    Calls Try.prog 38 #[.pointer (some ⟨p, 0, none⟩), .int .i64 x, .int .i64 t] w fun e w' => e = .returned (.int .i64 (D.die x t).1) ∧ ∃ Z', PZ w' p Z' (D.die x t).2 ∧ DStep Z Z' w w' := by
  obtain ⟨X, R, h, hz⟩ := h
  refine (die_any x t w h).mono ?_
  rintro e w' ⟨rfl, h1, S⟩
  exact ⟨rfl, h.pz h1 S (fun _ h => .inl h) hz⟩
theorem pz_revive (x : Int) (w : World) (h : PZ w p Z D) :
    Calls Try.prog 40 #[.pointer (some ⟨p, 0, none⟩), .int .i64 x] w fun e w' => e = .returned (.int .i64 (D.revive x).1) ∧ ∃ Z', PZ w' p Z' (D.revive x).2 ∧ DStep Z Z' w w' := by
  obtain ⟨X, R, h, hz⟩ := h
  refine (revive_any x w h).mono ?_
  rintro e w' ⟨rfl, h1, S⟩
  exact ⟨rfl, h.pz h1 S (fun _ h => .inl h) hz⟩
theorem pz_open (w : World) (h : PZ w p Z D) :
    Calls Try.prog 30 #[.pointer (some ⟨p, 0, none⟩)] w fun e w' => ∃ v, e = .returned v ∧ w'.ownsRow w.heap.size 3 1 v (opn D D.ids).length ((opn D D.ids).map (Value.int .i64)) ∧ Below w.heap.size w w' := by
  obtain ⟨X, R, h, _⟩ := h
  exact open_any w h
theorem pz_done (w : World) (h : PZ w p Z D) : Calls Try.prog 22 #[.pointer (some ⟨p, 0, none⟩)] w (DonePost w (ansOf D D.ids)) := by
  obtain ⟨X, R, h, _⟩ := h
  exact done_any w h
end
def isDone (D : Pl) (k : Int) : Bool := match D.ts k with
  | some e => e.done
  | none => false
theorem ansOf_eq (D : Pl) : ∀ l : List Int, (ansOf D l).length = (l.filter (isDone D)).length
  | [] => rfl
  | k :: l => by
    have ih := ansOf_eq D l
    unfold ansOf isDone at *
    cases hts : D.ts k with
    | none => simpa [List.filterMap_cons, List.filter_cons, hts] using ih
    | some e => cases hd : e.done <;> simpa [List.filterMap_cons, List.filter_cons, hts, hd] using ih
theorem ansOf_mem (D : Pl) {l : List Int} {r : Rep} (h : r ∈ ansOf D l) : ∃ k e, k ∈ l ∧ D.ts k = some e ∧ e.done = true ∧ r = e.ans := by
  unfold ansOf at h
  obtain ⟨k, hk, hr⟩ := List.mem_filterMap.1 h
  cases hts : D.ts k with
  | none => rw [hts] at hr; cases hr
  | some e =>
    rw [hts] at hr
    simp only at hr
    split at hr
    · rename_i hd
      exact ⟨k, e, hk, hts, hd, (Option.some.inj hr).symm⟩
    · cases hr
section
variable {lim : Int} {i : Nat} {D : Pl} {L : List Tr} {a : List Int}
theorem OnceI.fin (h : OnceI lim i D L a) (ok : POk D) : (ansOf D D.ids).length = a.countP (fun x => decide (0 < x)) := by
  rw [ansOf_eq]
  have e1 : a = (List.range a.length).map (fun j => a[j]?.getD 0) := by
    apply List.ext_getElem?
    intro j
    by_cases hj : j < a.length
    · rw [List.getElem?_map, List.getElem?_range hj, List.getElem?_eq_getElem hj]; simp [hj]
    · rw [List.getElem?_eq_none (by omega), List.getElem?_eq_none (by simp; omega)]
  have e2 : a.countP (fun x => decide (0 < x)) = ((List.range a.length).filter (fun j => decide (0 < a[j]?.getD 0))).length := by
    conv => lhs; rw [e1]
    rw [List.countP_map, List.countP_eq_length_filter]
    rfl
  rw [e2]
  have hmem : ∀ k ∈ D.ids, ∃ j : Nat, k = (j : Int) ∧ j ≤ 11 := fun k hk => by
    have h1 := h.ids k hk
    have h2 := (ok.idr k hk).1
    exact ⟨k.toNat, by omega, by omega⟩
  have hp : ((List.range a.length).filter (fun j => decide (0 < a[j]?.getD 0))).Perm ((D.ids.filter (isDone D)).map Int.toNat) := by
    refine (List.perm_ext_iff_of_nodup (List.Pairwise.filter _ List.nodup_range) ?_).2 (fun j => ?_)
    · have hn : (D.ids.filter (isDone D)).Pairwise (· < ·) := ok.ord.filter _
      unfold List.Nodup
      rw [List.pairwise_map]
      refine List.pairwise_iff_forall_sublist.2 fun {x y} hs => ?_
      have hlt := List.pairwise_iff_forall_sublist.1 hn hs
      have hx : x ∈ D.ids := (List.mem_filter.1 (hs.subset (by simp))).1
      have hy : y ∈ D.ids := (List.mem_filter.1 (hs.subset (by simp))).1
      have h1 := (ok.idr x hx).1
      omega
    · rw [List.mem_filter, List.mem_map]
      constructor
      · rintro ⟨hj, hx⟩
        have hj2 := List.mem_range.1 hj
        rw [List.getElem?_eq_getElem hj2] at hx
        have hx : 0 < a[j] := by simpa using hx
        rcases h.an j _ (List.getElem?_eq_getElem hj2) with ⟨q, _⟩ | ⟨_, _, e, he, hd, _⟩
        · omega
        · exact ⟨(j : Int), List.mem_filter.2 ⟨(ok.mem _).2 ⟨e, he⟩, by unfold isDone; rw [he]; exact hd⟩, Int.toNat_natCast j⟩
      · rintro ⟨k, hk, rfl⟩
        obtain ⟨hk1, hk2⟩ := List.mem_filter.1 hk
        obtain ⟨j, rfl, hj⟩ := hmem k hk1
        rw [Int.toNat_natCast]
        have hjl : j < a.length := by rw [h.al]; omega
        refine ⟨List.mem_range.2 hjl, ?_⟩
        rw [List.getElem?_eq_getElem hjl]
        unfold isDone at hk2
        rcases h.an j _ (List.getElem?_eq_getElem hjl) with ⟨_, q⟩ | ⟨q, _⟩
        · exfalso
          cases hts : D.ts (j : Int) with
          | none => rw [hts] at hk2; cases hk2
          | some e =>
            rw [hts] at hk2
            have hk2 : e.done = true := hk2
            rw [q e hts] at hk2
            cases hk2
        · simp only [Option.getD_some, decide_eq_true_eq]
          omega
  have := hp.length_eq
  rw [List.length_map] at this
  exact this.symm
theorem OnceI.rep (h : OnceI lim i D L a) (ok : POk D) {r : Rep} (hr : r ∈ ansOf D D.ids) : ∃ (j : Nat) (x : Int), j ≤ 11 ∧ r.task = (j : Int) ∧ a[j]? = some x ∧ r.body = [UInt8.ofNat x.toNat] ∧ 1 ≤ x ∧ x ≤ (i : Int) := by
  obtain ⟨k, e, hk, he, hd, rfl⟩ := ansOf_mem D hr
  obtain ⟨j, x, rfl, hj, hx, hx0⟩ := h.at ok he
  have ht := h.log.ans _ e he hd
  rcases h.an j x hx with ⟨q, _⟩ | ⟨q1, q2, f, hf, _, hb⟩
  · have := hx0.1 q
    rw [hd] at this
    cases this
  · rw [he] at hf
    cases hf
    exact ⟨j, x, hj, ht, hx, hb, q1, q2⟩
end
end Go.Proofs.Ytfdacckkdjpjhaa
