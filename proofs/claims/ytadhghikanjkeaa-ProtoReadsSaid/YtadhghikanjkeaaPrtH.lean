/- Package proto: decodeCore, what is known along the way. -/
import Derived.Test.YtadhghikanjkeaaPrtG
import Derived.Deep.RegionLaw
namespace Go.Proofs.Ytadhghikanjkeaa
open Go.RowKit

theorem Try.infoF : (Try.prog.info? 79).map (fun i => (i.zero, i.size, i.bytes)) = some (some (.agg #[.int .i64 0, .int .i64 0, .int .i64 0]), 3, 24) := by kernel_rfl
theorem Try.elF : Elem Try.prog 25 79 (.agg #[.int .i64 0, .int .i64 0, .int .i64 0]) 3 24 := ⟨Try.underlying25, Try.infoF, rfl, by decide, by decide⟩

/-- append of one element, as one step of a region that draws. -/
theorem step_appN {P : Program} {w : World} {ops : Array Oper} {o : Oper} {a : Act} {K : Act → World → Prop} {Q : Exit → Act → World → Prop} {R : Prop} (hgd : o.guard = none) (s x : Operand) {t e : TypeId} {z : Value} {size bytes : Nat}
    (ho : o.op = .call { callee := .builtin .append, args := #[s, x], argTypes := #[t, t] })
    (E : Elem P t e z size bytes) (base : Nat)
    (v : Value) (n : Nat) (xs : List Value) (hs : a.eval s = v) (hown : w.ownsRow base e size v n xs)
    (y : Value) (m : Nat) (news : List Value) (hx : a.eval x = y) (hb : Rv w y m news) (hl : news.length = m * size) (h1 : ∀ u ∈ news, u.oneCell' = true)
    (hbytes : (n + m) * bytes ≤ 140737488355328) (hbase : base ≤ w.heap.size)
    (h : ∀ v' w', w'.ownsRow base e size v' (n + m) (xs ++ news) → w.grownBy w' v.ownBlock → SameOrNew w v v' → K (a.put o.dst v') w') :
    if Region.wanted o (yielded ops a.tmps) = true then Oper.wp P o a w K Q else R := by
  have hw : Region.wanted o (yielded ops a.tmps) = true := by simp [Region.wanted, hgd]
  rw [if_pos hw]
  obtain ⟨i, hi, hz, hsize, hby⟩ := info_parts E.info
  have hle : n + m ≤ (n + m) * bytes := Nat.le_mul_of_pos_right _ E.hby
  obtain ⟨v', w', hr, h2, h3, h4⟩ := run_append_rd2 (P := P) w base t o.type e i z size bytes E.ht hi hz hsize hby E.hzs E.hsz v n xs hown y m news hb hl h1 (by unfold maxLen; omega) hbytes hbase
  unfold Oper.wp execOp
  simp only [ho, resolve, invoke, builtin, Sem.run_bind, Sem.run_pure, Result.andThen_ok, List.map_toArray, List.map_cons, List.map_nil, hs, hx, hr]
  exact h v' w' h2 h3 h4

/-- The results: an aggregate that lies in a block, then a slot. -/
theorem results_row_tmp {P : Program} {fn : Func} {p u : Tmp} {ty : TypeId} (h : fn.results = #[.cell p ty, .tmp u]) (tmps : Array Value) (w : World) (g : Nat) (t : TypeId) (cs : Array Value) (fr : Nat × Nat) (d : TypeDesc)
    (hp : tmps.getD p undef = .pointer (some ⟨g, 0, none⟩)) (hg : w.heap[g]? = some (.cells cs t fr))
    (hu : P.underlying ty = some d) (hd : (match d with | .struct _ | .array _ _ => true | _ => false) = true) (hi : (P.info? ty).map (·.size) = some cs.size) :
    (results fn tmps).run P w = .ok (.tuple #[.agg cs, tmps.getD u undef]) w := by
  have hp' : tmps[p]?.getD undef = .pointer (some ⟨g, 0, none⟩) := by simpa using hp
  rw [results_cell_tmp h]
  simp [hp', asAddr, run_loadVar_row w g t ty cs fr d hg hu hd hi, Result.andThen]

/-- What reads below N reads on when nothing below N changes. -/
theorem rvUnder {w w' : World} {v : Value} {n N : Nat} {us : List Value} (h : Rv w v n us) (hb : Below N w w') (hv : ∀ g, v.ownBlock = some g → g < N) : Rv w' v n us := by
  obtain ⟨ao, cap, rfl, h1, h3, h4, h5⟩ := h
  refine ⟨ao, cap, rfl, h1, h3, h4, ?_⟩
  rcases h5 with h5 | ⟨g, off, rfl, h5⟩
  · exact .inl h5
  · refine .inr ⟨g, off, rfl, fun i u hi => ?_⟩
    have hc := h5 i u hi
    unfold World.cell? at hc ⊢
    rw [hb.block g (hv g rfl)]
    exact hc
theorem ownUnder {w w' : World} {base N : Nat} {e : TypeId} {size : Nat} {v : Value} {n : Nat} {xs : List Value} (h : w.ownsRow base e size v n xs) (hb : Below N w w') (hv : ∀ g, v.ownBlock = some g → g < N) : w'.ownsRow base e size v n xs := by
  obtain ⟨hl, h | ⟨g, cap, cur, rfl, hb1, hg, hn, hc, hs', ht⟩⟩ := h
  · exact ⟨hl, .inl h⟩
  · exact ⟨hl, .inr ⟨g, cap, cur, rfl, hb1, (hb.block g (hv g rfl)).trans hg, hn, hc, hs', ht⟩⟩
theorem Rr.under {w w' : World} {b N : Nat} {v : Value} {bs : List UInt8} {a e : Int} (h : Rr w b v bs a e) (hb : Below N w w') (hN : b < N) (hv : ∀ g, v.ownBlock = some g → g < N) : Rr w' b v bs a e :=
  ⟨(hb.block b hN).trans h.1, rvUnder h.2.1 hb hv, h.2.2⟩
theorem Rst.under {w w' : World} {b N : Nat} {v : Value} {bs : List UInt8} {s : RS} (h : Rst w b v bs s) (hb : Below N w w') (hN : b < N) (hv : ∀ g, v.ownBlock = some g → g < N) : Rst w' b v bs s := by
  cases h with
  | ok k hk h => exact .ok k hk (h.under hb hN hv)
  | bad a e he h => exact .bad a e he (h.under hb hN hv)

/-- A cell row of a message. -/
def msgO (x1 x2 x3 x4 : Int) (bv fv : Value) : Obj := .cells #[.int .i64 x1, .int .i64 x2, .int .i64 x3, .int .i64 x4, bv, fv] 33 (0, 0)
/-- The result's block and the reader. -/
structure DcA (w W : World) (b : Nat) (v : Value) (c : List UInt8) (s : RS) : Prop where
  res : W.heap[w.heap.size]? = some (msgO 0 0 0 0 (.slice none 0 0) (.slice none 0 0))
  rst : Rst W b v c s
  vb : ∀ g, v.ownBlock = some g → g < b
  lt : w.heap.size < b
  bel : Below w.heap.size w W
theorem DcA.step {w W W' : World} {b : Nat} {v : Value} {c : List UInt8} {s s' : RS} (h : DcA w W b v c s) (R : Rst W' b v c s') (S : BStep b W W') : DcA w W' b v c s' :=
  ⟨(S.block _ (Array.getElem?_eq_some_iff.1 h.res).1 (by have := h.lt; omega)).trans h.res, R, h.vb, h.lt, h.bel.trans (S.below _ (by have := h.lt; omega) h.rst.lt)⟩
/-- The same, with the message that is read. -/
structure DSt (w W : World) (b mb : Nat) (v : Value) (c : List UInt8) (s : RS) (x1 x2 x3 x4 : Int) (bv fv : Value) (bs : List UInt8) (l : List F3) : Prop where
  A : DcA w W b v c s
  blk : W.heap[mb]? = some (msgO x1 x2 x3 x4 bv fv)
  body : W.ownsRow (b + 1) 5 1 bv bs.length (bs.map vB)
  bodyb : ∀ g, bv.ownBlock = some g → g < mb
  own : W.ownsRow (mb + 1) 79 3 fv l.length (fcells l)
  lt : b < mb
section
variable {w W W' : World} {b mb : Nat} {v : Value} {c : List UInt8} {s s' : RS} {x1 x2 x3 x4 : Int} {bv fv : Value} {bs : List UInt8} {l : List F3}
theorem DSt.mlt (h : DSt w W b mb v c s x1 x2 x3 x4 bv fv bs l) : mb < W.heap.size := (Array.getElem?_eq_some_iff.1 h.blk).1
theorem DSt.c5 (h : DSt w W b mb v c s x1 x2 x3 x4 bv fv bs l) : W.cell? ⟨mb, 5, none⟩ = some fv := by
  have := h.blk
  unfold msgO at this
  simp [World.cell?, this]
theorem DSt.f5 (h : DSt w W b mb v c s x1 x2 x3 x4 bv fv bs l) : W.frozen? ⟨mb, 5, none⟩ = false := by
  have := h.blk
  unfold msgO at this
  simp [World.frozen?, this]
theorem DSt.call (h : DSt w W b mb v c s x1 x2 x3 x4 bv fv bs l) (R : Rst W' b v c s') (S : BStep b W W') : DSt w W' b mb v c s' x1 x2 x3 x4 bv fv bs l :=
  ⟨h.A.step R S, (S.block _ h.mlt (by have := h.lt; omega)).trans h.blk, own_bstep h.body S (by omega), h.bodyb, own_bstep h.own S (by have := h.lt; omega), h.lt⟩
theorem DSt.drew (h : DSt w W b mb v c s x1 x2 x3 x4 bv fv bs l) : DSt w W.drew b mb v c s x1 x2 x3 x4 bv fv bs l :=
  h.call (h.A.rst.under (Below.refl (b + 1) W).drew (by omega) (fun g hg => by have := h.A.vb g hg; omega)) (BStep.refl b W).drew
theorem DSt.alloc (h : DSt w W b mb v c s x1 x2 x3 x4 bv fv bs l) (o : Obj) : DSt w (W.alloc o) b mb v c s x1 x2 x3 x4 bv fv bs l :=
  h.call (h.A.rst.under ((Below.refl (b + 1) W).alloc (by have := h.mlt; have := h.lt; omega) o) (by omega) (fun g hg => by have := h.A.vb g hg; omega)) (BStep.of_below ((Below.refl _ _).alloc (Nat.le_refl _) o))
theorem DSt.later (h : DSt w W b mb v c s x1 x2 x3 x4 bv fv bs l) (B : Below W.heap.size W W') : DSt w W' b mb v c s x1 x2 x3 x4 bv fv bs l :=
  h.call (h.A.rst.under (B.mono (B' := b + 1) (by have := h.mlt; have := h.lt; omega)) (by omega) (fun g hg => by have := h.A.vb g hg; omega)) (BStep.of_below B)
theorem DSt.push (h : DSt w W b mb v c s x1 x2 x3 x4 bv fv bs l) {fv' : Value} {l' : List F3} (hg : W.grownBy W' fv.ownBlock) (ho : W'.ownsRow (mb + 1) 79 3 fv' l'.length (fcells l')) :
    DSt w (W'.setCell ⟨mb, 5, none⟩ fv') b mb v c s x1 x2 x3 x4 bv fv' bs l' := by
  have hlt := h.own.lt
  have hm := h.mlt
  have hbm := h.lt
  have hB : Below (mb + 1) W W' := ⟨hg.os, hg.tape, hg.output, hg.size, fun k hk => hg.block k (by omega) (fun e => by have := (hlt k e.symm).1; omega)⟩
  have hB2 : Below mb W (W'.setCell ⟨mb, 5, none⟩ fv') := (hB.mono (Nat.le_succ mb)).setCell (p := ⟨mb, 5, none⟩) (Nat.le_refl _) fv'
  have hbl : W'.heap[mb]? = some (msgO x1 x2 x3 x4 bv fv) := (hB.block mb (by omega)).trans h.blk
  refine ⟨⟨(hB2.block _ (by have := h.A.lt; omega)).trans h.A.res, h.A.rst.under hB2 hbm (fun g hg => by have := h.A.vb g hg; omega), h.A.vb, h.A.lt, h.A.bel.trans (hB2.mono (by have := h.A.lt; omega))⟩, ?_, ownUnder h.body hB2 h.bodyb, h.bodyb, ?_, h.lt⟩
  · have := setSame (i := 5) hbl fv'
    simpa [msgO] using this
  · obtain ⟨hl, h | ⟨g, cap, cur, rfl, hb1, hg, hn, hc, hs', ht⟩⟩ := ho
    · exact ⟨hl, .inl h⟩
    · exact ⟨hl, .inr ⟨g, cap, cur, rfl, hb1, (Below.heap_setCell _ _ _ _ (by simp; omega)).trans hg, hn, hc, hs', ht⟩⟩
end
theorem rint_eq {b : Nat} {v : Value} {c : List UInt8} {s s1 : RS} {n : Int} {w : World} (e : rdI s = (n, s1)) (h : Rst w b v c s) :
    Calls Try.prog 59 #[.pointer (some ⟨b, 0, none⟩)] w (RPost w b v c s1 (.int .i64 n)) := by
  have := rint_any b v c s w h
  rwa [e] at this
theorem rd3_inv {k : Nat} {s s0 s1 s2 s3 : RS} {l : List F3} {i : Nat} {a b c : Int} (hi : i < k) (h : rd3 k s0 = (l ++ (rd3 (k - i) s).1, (rd3 (k - i) s).2)) (ha : rdI s = (a, s1)) (hb : rdI s1 = (b, s2)) (hc : rdI s2 = (c, s3)) :
    rd3 k s0 = ((l ++ [⟨a, b, c⟩]) ++ (rd3 (k - (i + 1)) s3).1, (rd3 (k - (i + 1)) s3).2) := by
  have e : k - i = (k - (i + 1)) + 1 := by omega
  rw [h, e, rd3]
  simp only [ha, hb, hc, List.append_assoc, List.cons_append, List.nil_append]
end Go.Proofs.Ytadhghikanjkeaa
