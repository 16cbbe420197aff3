/- The law PoolSame: its pool and its answers in memory, and what the operations leave. -/
import Derived.Test.YtfdacckkdjpjhaaPsB
import Derived.Test.YtfdacckkdjpjhaaHeld
namespace Go.Proofs.Ytfdacckkdjpjhaa
open Go.RowKit

theorem rplen4 (x : Rep × Value) : ([.int .i64 x.1.task, .int .i64 x.1.worker, .int .i64 x.1.tr, x.2] : List Value).length = 4 := rfl
theorem take_snocS {α : Type} {l : List α} {i : Nat} {x : α} (h : l[i]? = some x) : l.take (i + 1) = l.take i ++ [x] := by rw [List.take_add_one, h]; rfl
theorem rvAtS {α : Type} {W : World} {n c i : Nat} {a : Option Addr} {l : List α} {f : α → Value} {k : α} (h : Rv W (.slice a n c) n (l.map f)) (hk : l[i]? = some k) : ∃ g off, a = some ⟨g, off, none⟩ ∧ W.cell? ⟨g, off + i, none⟩ = some (f k) := by
  obtain ⟨a', c', e, _, hr⟩ := h.opened
  injection e with e1
  rw [← e1] at hr
  exact hr.cell (i := i) (u := f k) (by rw [List.getElem?_map, hk]; rfl)
/-- The cells of an answer. -/
theorem RepsE.atS {W : World} {lo base : Nat} {v : Value} {xs : List (Rep × Value)} (h : RepsE W lo base v xs) {i : Nat} {x : Rep × Value} (hx : xs[i]? = some x) : ∃ g c, v = .slice (some ⟨g, 0, none⟩) xs.length c ∧ xs.length ≤ c ∧ W.cell? ⟨g, i * 4, none⟩ = some (.int .i64 x.1.task) ∧ W.cell? ⟨g, i * 4 + 1, none⟩ = some (.int .i64 x.1.worker) ∧ W.cell? ⟨g, i * 4 + 2, none⟩ = some (.int .i64 x.1.tr) ∧ W.cell? ⟨g, i * 4 + 3, none⟩ = some x.2 := by
  obtain ⟨g, c, hj, hc, _, hcell⟩ := row_at (own_base h.own (Nat.zero_le _)) (by have := (List.getElem?_eq_some_iff.1 hx).1; omega)
  have hf := fun k => flat_at (fun x : Rep × Value => [.int .i64 x.1.task, .int .i64 x.1.worker, .int .i64 x.1.tr, x.2]) 4 rplen4 xs i k x hx
  exact ⟨g, c, hj, hc, hcell _ _ (hf 0 (by omega)), hcell _ _ (hf 1 (by omega)), hcell _ _ (hf 2 (by omega)), hcell _ _ (hf 3 (by omega))⟩
theorem RepsE.laterS {W W' : World} {lo base : Nat} {v : Value} {xs : List (Rep × Value)} (h : RepsE W lo base v xs) (B : Below W.heap.size W W') : RepsE W' lo base v xs :=
  ⟨own_below h.own B, fun x hx => own_below (h.each x hx) B⟩
/-- The law's pool and its answers. -/
structure SamM (w W : World) (p : Nat) (Z : Nat → Prop) (D : Pl) (bs : List (List UInt8)) (lv : Value) (late : List (Rep × Value)) (T : Int) (n : Nat) : Prop where
  pz : PZ W p Z D
  sam : SamI resL bs D
  tl : TL n D
  tck : D.tick ≤ T
  reps : RepsE W w.heap.size w.heap.size lv late
  lok : ∀ x ∈ late, LateOk resL bs x.1 ∧ 0 ≤ x.1.tr ∧ x.1.tr ≤ 1000000
  off : Off lv Z
  offb : ∀ x ∈ late, Off x.2 Z
  bel : Below w.heap.size w W
  zb : ∀ b, Z b → w.heap.size ≤ b
  bl : ∀ b ∈ bs, b.length ≤ 20
section
variable {w W W' : World} {p : Nat} {Z Z' : Nat → Prop} {D D' : Pl} {bs : List (List UInt8)} {lv : Value} {late : List (Rep × Value)} {T T' : Int} {n n' : Nat}
theorem SamM.pool (h : SamM w W p Z D bs lv late T n) (P : PZ W' p Z' D') (S : DStep Z Z' W W') (s : SamI resL bs D') (t : TL n' D') (k : D'.tick ≤ T') : SamM w W' p Z' D' bs lv late T' n' :=
  ⟨P, s, t, k, ⟨own_step h.reps.own S h.off, fun x hx => own_step (h.reps.each x hx) S (h.offb x hx)⟩, h.lok, h.off.step S h.reps.own, fun x hx => (h.offb x hx).step S (h.reps.each x hx), h.bel.trans (S.toBelow h.bel.size h.zb), S.ge h.bel.size h.zb, h.bl⟩
theorem SamM.later (h : SamM w W p Z D bs lv late T n) (B : Below W.heap.size W W') : SamM w W' p Z D bs lv late T n :=
  ⟨h.pz.later B, h.sam, h.tl, h.tck, ⟨own_below h.reps.own B, fun x hx => own_below (h.reps.each x hx) B⟩, h.lok, h.off, h.offb, Go.Proofs.Ytfdacckkdjpjhaa.bel h.bel B, h.zb, h.bl⟩
theorem SamM.wait (h : SamM w W p Z D bs lv late T n) (hT : T ≤ T') (hn : n ≤ n') : SamM w W p Z D bs lv late T' n' :=
  ⟨h.pz, h.sam, h.tl.mono hn, Int.le_trans h.tck hT, h.reps, h.lok, h.off, h.offb, h.bel, h.zb, h.bl⟩
/-- One answer more. -/
theorem SamM.app (h : SamM w W p Z D bs lv late T n) {lv' v : Value} {r : Rep} (hv : W.ownsRow w.heap.size 5 1 v r.body.length (r.body.map vB)) (hvo : Off v Z) (hr : LateOk resL bs r ∧ 0 ≤ r.tr ∧ r.tr ≤ 1000000)
    (ho : W'.ownsRow w.heap.size 44 4 lv' (late.length + 1) (rcells late ++ [.int .i64 r.task, .int .i64 r.worker, .int .i64 r.tr, v])) (hg : W.grownBy W' lv.ownBlock) (hs : SameOrNew W lv lv') : SamM w W' p Z D bs lv' (late ++ [(r, v)]) T n := by
  have k : ∀ b, b < W.heap.size → lv.ownBlock ≠ some b → W'.heap[b]? = W.heap[b]? := fun b hb hn => hg.block b hb (fun e => hn e.symm)
  have kb : ∀ {u : Value} {m : Nat} {xs : List Value}, W.ownsRow w.heap.size 5 1 u m xs → W'.ownsRow w.heap.size 5 1 u m xs := fun hu => own_same hu (fun b hb => k b (hu.lt b hb).2 (fun e => own_types hu h.reps.own (by decide) b hb e))
  refine ⟨h.pz.kept hg.size (fun b hb => k b (h.pz.zl b hb) (fun e => h.off b e hb)), h.sam, h.tl, h.tck, ⟨?_, fun x hx => ?_⟩, fun x hx => ?_, fun b hb hz => ?_, fun x hx => ?_, h.bel.grown hg h.bel.size (fun g hg' => (h.reps.own.lt g hg').1), h.zb, h.bl⟩
  · have e : rcells (late ++ [(r, v)]) = rcells late ++ [.int .i64 r.task, .int .i64 r.worker, .int .i64 r.tr, v] := by unfold rcells; rw [List.flatMap_append]; rfl
    rw [List.length_append, e]
    exact ho
  · rcases List.mem_append.1 hx with q | q
    · exact kb (h.reps.each x q)
    · rw [List.mem_singleton.1 q]; exact kb hv
  · rcases List.mem_append.1 hx with q | q
    · exact h.lok x q
    · rw [List.mem_singleton.1 q]; exact hr
  · rcases hs with e | hs
    · rw [e] at hb
      exact h.off b hb hz
    · have := hs b hb
      have := h.pz.zl b hz
      omega
  · rcases List.mem_append.1 hx with q | q
    · exact h.offb x q
    · rw [List.mem_singleton.1 q]; exact hvo
/-- The cells of an answer. -/
theorem SamM.at (h : SamM w W p Z D bs lv late T n) {i : Nat} {x : Rep × Value} (hx : late[i]? = some x) : ∃ g c, lv = .slice (some ⟨g, 0, none⟩) late.length c ∧ late.length ≤ c ∧ W.cell? ⟨g, i * 4, none⟩ = some (.int .i64 x.1.task) ∧ W.cell? ⟨g, i * 4 + 1, none⟩ = some (.int .i64 x.1.worker) ∧ W.cell? ⟨g, i * 4 + 2, none⟩ = some (.int .i64 x.1.tr) ∧ W.cell? ⟨g, i * 4 + 3, none⟩ = some x.2 := by
  obtain ⟨g, c, hj, hc, _, hcell⟩ := row_at (own_base h.reps.own (Nat.zero_le _)) (by have := (List.getElem?_eq_some_iff.1 hx).1; omega)
  have hf := fun k => flat_at (fun x : Rep × Value => [.int .i64 x.1.task, .int .i64 x.1.worker, .int .i64 x.1.tr, x.2]) 4 rplen4 late i k x hx
  exact ⟨g, c, hj, hc, hcell _ _ (hf 0 (by omega)), hcell _ _ (hf 1 (by omega)), hcell _ _ (hf 2 (by omega)), hcell _ _ (hf 3 (by omega))⟩
theorem ask_n {D : Pl} {n : Nat} (h : TL n D) (x t : Int) : 0 ≤ (D.ask x t).1.n ∧ (D.ask x t).1.n ≤ (n : Int) := by
  unfold Pl.ask
  split
  · exact ⟨Int.le_refl _, Int.natCast_nonneg _⟩
  · split
    · exact ⟨Int.le_refl _, Int.natCast_nonneg _⟩
    · split
      · exact ⟨Int.le_refl _, Int.natCast_nonneg _⟩
      · split
        · exact ⟨Int.le_refl _, Int.natCast_nonneg _⟩
        · split
          · exact ⟨Int.le_refl _, Int.natCast_nonneg _⟩
          · rename_i k e hp
            obtain ⟨_, hts, _, _⟩ := pickIn_some hp
            have := h k e hts
            exact ⟨Int.natCast_nonneg _, by show ((e.tries.length : Nat) : Int) ≤ _; omega⟩
theorem sm_die (x t : Int) (W : World) (h : SamM w W p Z D bs lv late T n) (ht : t ≤ T) :
    Calls Try.prog 38 #[.pointer (some ⟨p, 0, none⟩), .int .i64 x, .int .i64 t] W fun e W' => ∃ r Z' D', e = .returned (.int .i64 r) ∧ SamM w W' p Z' D' bs lv late T n := by
  refine (pz_die x t W h.pz).mono ?_
  rintro e w' ⟨rfl, Z', P, S⟩
  exact ⟨_, Z', _, rfl, h.pool P S (h.sam.die x t) (h.tl.die x t) (tick_die h.tck ht)⟩
theorem sm_revive (x : Int) (W : World) (h : SamM w W p Z D bs lv late T n) :
    Calls Try.prog 40 #[.pointer (some ⟨p, 0, none⟩), .int .i64 x] W fun e W' => ∃ r Z', e = .returned (.int .i64 r) ∧ SamM w W' p Z' (D.revive x).2 bs lv late T n := by
  refine (pz_revive x W h.pz).mono ?_
  rintro e w' ⟨rfl, Z', P, S⟩
  exact ⟨_, Z', rfl, h.pool P S (h.sam.revive x) (h.tl.revive x) (tick_revive h.tck)⟩
theorem sm_answer (x : Rep × Value) (t : Int) (W : World) (h : SamM w W p Z D bs lv late T n) (hx : x ∈ late) (ht : t ≤ T) :
    Calls Try.prog 16 #[.pointer (some ⟨p, 0, none⟩), .agg #[.int .i64 x.1.task, .int .i64 x.1.worker, .int .i64 x.1.tr, x.2], .int .i64 t] W fun e W' => ∃ f r Z' D', e = .returned (.tuple #[.bool f, .int .i64 r]) ∧ SamM w W' p Z' D' bs lv late T n := by
  obtain ⟨hl, h0, h1⟩ := h.lok x hx
  have hb : x.1.body.length ≤ 10 := by
    obtain ⟨i, b, _, _, hb⟩ := hl
    rw [hb]
    exact resL_len b
  refine (pz_answer x.1.task x.1.worker x.1.tr x.2 x.1.body t W h.pz (by omega) (Rv.of_own (h.reps.each x hx)) (by omega) (h.offb x hx)).mono ?_
  rintro e w' ⟨rfl, Z', P, S⟩
  exact ⟨_, _, Z', _, rfl, h.pool P S (h.sam.answer hl) (h.tl.answer _ _ _ _ _) (tick_answer h.tck ht)⟩
theorem sm_answerR (task worker tr : Int) (v : Value) (b : List UInt8) (t : Int) (W : World) (h : SamM w W p Z D bs lv late T n) (hl : LateOk resL bs ⟨task, worker, tr, b⟩) (h0 : 0 ≤ tr) (h1 : tr ≤ 1000000) (hv : Rv W v b.length (b.map vB)) (ho : Off v Z) (ht : t ≤ T) :
    Calls Try.prog 16 #[.pointer (some ⟨p, 0, none⟩), .agg #[.int .i64 task, .int .i64 worker, .int .i64 tr, v], .int .i64 t] W fun e W' => ∃ f r Z', e = .returned (.tuple #[.bool f, .int .i64 r]) ∧ SamM w W' p Z' (D.answer task worker tr b t).2.2 bs lv late T n ∧ DStep Z Z' W W' := by
  have hb : b.length ≤ 10 := by
    obtain ⟨i, b', _, _, hb⟩ := hl
    simp only at hb
    rw [hb]
    exact resL_len b'
  refine (pz_answer task worker tr v b t W h.pz (by omega) hv (by omega) ho).mono ?_
  rintro e w' ⟨rfl, Z', P, S⟩
  exact ⟨_, _, Z', rfl, h.pool P S (h.sam.answer hl) (h.tl.answer _ _ _ _ _) (tick_answer h.tck ht), S⟩
/-- The last rounds: as many open tasks as rounds that are left. -/
structure SamF (w W : World) (p : Nat) (Z : Nat → Prop) (D : Pl) (bs : List (List UInt8)) (lv : Value) (late : List (Rep × Value)) (T : Int) (n i : Nat) : Prop where
  m : SamM w W p Z D bs lv late T n
  l : Liv D
  o : (opn D D.ids).length ≤ 10 - i
theorem SamF.of (h : SamM w W p Z D bs lv late T n) (l : Liv D) (hb : bs.length ≤ 10) : SamF w W p Z D bs lv late T n 0 := ⟨h, l, by
  have h1 := List.length_filter_le (isOpn D) D.ids
  rw [← opn_is, h.sam.ids, List.length_map, List.length_range] at h1
  rw [h.sam.ids]
  omega⟩
theorem sm_ask (x t : Int) (W : World) (h : SamM w W p Z D bs lv late T n) (ht : t ≤ T) (hn : n ≤ 1000000) :
    Calls Try.prog 15 #[.pointer (some ⟨p, 0, none⟩), .int .i64 x, .int .i64 t] W fun e W' => ∃ bv Z', e = .returned (.tuple #[.agg #[.int .i64 (D.ask x t).1.id, bv], .int .i64 (D.ask x t).1.n, .bool (D.ask x t).1.is, .int .i64 (D.ask x t).1.err]) ∧
      W'.ownsRow W.heap.size 5 1 bv (D.ask x t).1.body.length ((D.ask x t).1.body.map vB) ∧ Off bv Z' ∧ SamM w W' p Z' (D.ask x t).2 bs lv late T (n + 1) := by
  refine (pz_ask x t W h.pz h.tl (by omega)).mono ?_
  rintro e w' ⟨bv, Z', rfl, hO, P, S, ho⟩
  exact ⟨bv, Z', rfl, hO, ho, h.pool P S (h.sam.ask x t) (h.tl.ask x t) (tick_ask h.tck ht)⟩
end
end Go.Proofs.Ytfdacckkdjpjhaa
