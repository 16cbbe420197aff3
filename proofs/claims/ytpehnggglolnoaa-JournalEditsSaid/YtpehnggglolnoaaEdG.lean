/- What Make works on: the items, the texts, the desk. -/
import Derived.Test.YtpehnggglolnoaaEdE
import Derived.Test.YtpehnggglolnoaaEdF
namespace Go.Proofs.Ytpehnggglolnoaa
open Go.RowKit

theorem Try.infoVI : (Try.prog.info? 22).map (fun i => (i.zero, i.size, i.bytes)) = some (some (.slice none 0 0), 1, 24) := by kernel_rfl
theorem Try.elVI : Elem Try.prog 33 22 (.slice none 0 0) 1 24 := ⟨Try.underlying33, Try.infoVI, rfl, by decide, by decide⟩
/-- What Make's variable and its rows lie in; and with the desk. -/
def mkA (mb : Nat) (vi vt : Value) : Nat → Prop := fun b => b = mb ∨ vi.ownBlock = some b ∨ vt.ownBlock = some b
def mkZ (mb dk : Nat) (vi vt va vc : Value) : Nat → Prop := fun b => mkA mb vi vt b ∨ dkF dk va vc (.slice none 0 0) b
structure MkS (N : Nat) (W : World) (mb dk : Nat) (vi vt va vc : Value) (xs : List ItV) (us : List Value) (ts : List (List Int)) (l : List EdV) (cs : List Nat) : Prop where
  blk : W.heap[mb]? = some (.cells #[vi, vt] 35 (0, 0))
  oi : W.ownsRow N 47 6 vi xs.length (itcells xs)
  ot : W.ownsRow N 22 1 vt us.length us
  ds : DeskX W N dk va vc (.slice none 0 0) l cs []
  rx : ∀ p ∈ xs, Frz W (mkZ mb dk vi vt va vc) p.ed.ins p.x.e.s.length (p.x.e.s.map (Value.int .i64)) ∧ ∀ g, p.ed.ins.ownBlock = some g → N ≤ g
  ru : ∀ i u, us[i]? = some u → Frz W (mkZ mb dk vi vt va vc) u (ts.getD i []).length ((ts.getD i []).map (Value.int .i64)) ∧ ∀ g, u.ownBlock = some g → N ≤ g
  mlo : N ≤ mb
section
variable {N mb dk : Nat} {p : ItV} {W W1 : World} {vi vt va vc v' va' vc' : Value} {xs xs' : List ItV} {us us' : List Value} {ts ts' : List (List Int)} {l l' : List EdV} {cs cs' : List Nat}
theorem MkS.lt (h : MkS N W mb dk vi vt va vc xs us ts l cs) : mb < W.heap.size := (Array.getElem?_eq_some_iff.1 h.blk).1
theorem MkS.c0 (h : MkS N W mb dk vi vt va vc xs us ts l cs) : W.cell? ⟨mb, 0, none⟩ = some vi := by simp [World.cell?, h.blk]
theorem MkS.c1 (h : MkS N W mb dk vi vt va vc xs us ts l cs) : W.cell? ⟨mb, 1, none⟩ = some vt := by simp [World.cell?, h.blk]
theorem MkS.fz (h : MkS N W mb dk vi vt va vc xs us ts l cs) (j : Nat) : W.frozen? ⟨mb, j, none⟩ = false := by simp [World.frozen?, h.blk]
theorem MkS.later (h : MkS N W mb dk vi vt va vc xs us ts l cs) (B : Below W.heap.size W W1) : MkS N W1 mb dk vi vt va vc xs us ts l cs :=
  ⟨(B.block _ h.lt).trans h.blk, own_below h.oi B, own_below h.ot B, h.ds.later B, fun p hp => ⟨(h.rx p hp).1.later B, (h.rx p hp).2⟩, fun i u hu => ⟨(h.ru i u hu).1.later B, (h.ru i u hu).2⟩, h.mlo⟩
theorem DeskX.kept {vh : Value} {hs : List ItV} (h : DeskX W N dk va vc vh l cs hs) (hk : ∀ b, dkF dk va vc vh b → W1.heap[b]? = W.heap[b]?) : DeskX W1 N dk va vc vh l cs hs :=
  ⟨(hk dk (.inl rfl)).trans h.blk, own_same h.oa (fun b hb => hk b (.inr (.inl hb))), own_same h.oc (fun b hb => hk b (.inr (.inr (.inl hb)))), own_same h.oh (fun b hb => hk b (.inr (.inr (.inr hb)))), h.lo⟩
/-- The desk lies apart from the rest. -/
theorem MkS.sep (h : MkS N W mb dk vi vt va vc xs us ts l cs) : Sep (dkF dk va vc (.slice none 0 0)) (mkA mb vi vt) := by
  have hne : dk ≠ mb := fun e => by have h1 := h.blk; rw [← e, h.ds.blk] at h1; cases h1
  intro b hb hm
  rcases hb with rfl | hb | hb | hb
  · rcases hm with hm | hm | hm
    · exact hne hm
    · exact own_notBlk h.oi h.ds.blk (by decide) hm
    · exact own_notBlk h.ot h.ds.blk (by decide) hm
  · rcases hm with rfl | hm | hm
    · exact own_notBlk h.ds.oa h.blk (by decide) hb
    · exact own_types h.ds.oa h.oi (by decide) b hb hm
    · exact own_types h.ds.oa h.ot (by decide) b hb hm
  · rcases hm with rfl | hm | hm
    · exact own_notBlk h.ds.oc h.blk (by decide) hb
    · exact own_types h.ds.oc h.oi (by decide) b hb hm
    · exact own_types h.ds.oc h.ot (by decide) b hb hm
  · cases hb
theorem MkS.take (h : MkS N W mb dk vi vt va vc xs us ts l cs) (D : DeskX W1 N dk va' vc' (.slice none 0 0) l' cs' []) (S : DStep (dkF dk va vc (.slice none 0 0)) (dkF dk va' vc' (.slice none 0 0)) W W1) :
    MkS N W1 mb dk vi vt va' vc' xs us ts l' cs' ∧ DStep (mkZ mb dk vi vt va vc) (mkZ mb dk vi vt va' vc') W W1 := by
  have SZ : DStep (mkZ mb dk vi vt va vc) (mkZ mb dk vi vt va' vc') W W1 := S.wideL (mkA mb vi vt)
  have hs := h.sep
  have hk : ∀ b, mkA mb vi vt b → b < W.heap.size → W1.heap[b]? = W.heap[b]? := fun b hb hl => S.block b hl (fun hd => hs b hd hb)
  exact ⟨⟨(hk mb (.inl rfl) h.lt).trans h.blk, own_same h.oi (fun b hb => hk b (.inr (.inl hb)) (h.oi.lt b hb).2), own_same h.ot (fun b hb => hk b (.inr (.inr hb)) (h.ot.lt b hb).2), D, fun p hp => ⟨(h.rx p hp).1.step SZ, (h.rx p hp).2⟩, fun i u hu => ⟨(h.ru i u hu).1.step SZ, (h.ru i u hu).2⟩, h.mlo⟩, SZ⟩
theorem MkS.items (h : MkS N W mb dk vi vt va vc xs us ts l cs) (S : DStep (own1 vi) (own1 v') W W1) (ho : W1.ownsRow N 47 6 v' (xs ++ [p]).length (itcells (xs ++ [p])))
    (hp : Frz W (mkZ mb dk vi vt va vc) p.ed.ins p.x.e.s.length (p.x.e.s.map (Value.int .i64)) ∧ ∀ g, p.ed.ins.ownBlock = some g → N ≤ g) :
    MkS N (W1.setCell ⟨mb, 0, none⟩ v') mb dk v' vt va vc (xs ++ [p]) us ts l cs ∧ DStep (mkZ mb dk vi vt va vc) (mkZ mb dk v' vt va vc) W (W1.setCell ⟨mb, 0, none⟩ v') := by
  have S1 : DStep (mkZ mb dk vi vt va vc) (mkZ mb dk v' vt va vc) W W1 := ⟨S.os, S.tape, S.output, S.size, fun k hk hX => S.block k hk (fun e => hX (.inl (.inr (.inl e)))), fun k hk => by
    rcases hk with (hk | hk | hk) | hk
    · exact .inl (.inl (.inl hk))
    · exact (S.grow k hk).elim (fun e => .inl (.inl (.inr (.inl e)))) .inr
    · exact .inl (.inl (.inr (.inr hk)))
    · exact .inl (.inr hk)⟩
  have S2 := S1.set (.inl (.inl (.inl rfl))) (i := 0) v'
  have b1 := (S.block mb h.lt (fun e => own_notBlk h.oi h.blk (by decide) e)).trans h.blk
  have t1 := own_step h.ot S (own_types h.ot h.oi (by decide))
  have hs := h.sep
  have D1 : DeskX (W1.setCell ⟨mb, 0, none⟩ v') N dk va vc (.slice none 0 0) l cs [] := h.ds.kept (fun b hb =>
    (Below.heap_setCell _ _ _ _ (fun e => hs b hb (.inl e))).trans (S.block b (h.ds.fl b hb).2 (fun e => hs b hb (.inr (.inl e)))))
  refine ⟨⟨heap_set3 b1 0 v', own_setc ho (own_notBlk ho b1 (by decide)), own_setc t1 (own_notBlk t1 b1 (by decide)), D1, fun q hq => ?_, fun i u hu => ⟨(h.ru i u hu).1.step S2, (h.ru i u hu).2⟩, h.mlo⟩, S2⟩
  rcases List.mem_append.1 hq with hq | hq
  · exact ⟨(h.rx q hq).1.step S2, (h.rx q hq).2⟩
  · rw [List.mem_singleton.1 hq]; exact ⟨hp.1.step S2, hp.2⟩
theorem MkS.texts (h : MkS N W mb dk vi vt va vc xs us ts l cs) (hl : us.length = ts.length) (S : DStep (own1 vt) (own1 v') W W1) {u : Value} {t : List Int} (ho : W1.ownsRow N 22 1 v' (us ++ [u]).length (us ++ [u]))
    (hp : Frz W (mkZ mb dk vi vt va vc) u t.length (t.map (Value.int .i64)) ∧ ∀ g, u.ownBlock = some g → N ≤ g) :
    MkS N (W1.setCell ⟨mb, 1, none⟩ v') mb dk vi v' va vc xs (us ++ [u]) (ts ++ [t]) l cs ∧ DStep (mkZ mb dk vi vt va vc) (mkZ mb dk vi v' va vc) W (W1.setCell ⟨mb, 1, none⟩ v') := by
  have S1 : DStep (mkZ mb dk vi vt va vc) (mkZ mb dk vi v' va vc) W W1 := ⟨S.os, S.tape, S.output, S.size, fun k hk hX => S.block k hk (fun e => hX (.inl (.inr (.inr e)))), fun k hk => by
    rcases hk with (hk | hk | hk) | hk
    · exact .inl (.inl (.inl hk))
    · exact .inl (.inl (.inr (.inl hk)))
    · exact (S.grow k hk).elim (fun e => .inl (.inl (.inr (.inr e)))) .inr
    · exact .inl (.inr hk)⟩
  have S2 := S1.set (.inl (.inl (.inl rfl))) (i := 1) v'
  have b1 := (S.block mb h.lt (fun e => own_notBlk h.ot h.blk (by decide) e)).trans h.blk
  have t1 := own_step h.oi S (own_types h.oi h.ot (by decide))
  have hs := h.sep
  have D1 : DeskX (W1.setCell ⟨mb, 1, none⟩ v') N dk va vc (.slice none 0 0) l cs [] := h.ds.kept (fun b hb =>
    (Below.heap_setCell _ _ _ _ (fun e => hs b hb (.inl e))).trans (S.block b (h.ds.fl b hb).2 (fun e => hs b hb (.inr (.inr e)))))
  refine ⟨⟨heap_set3 b1 1 v', own_setc t1 (own_notBlk t1 b1 (by decide)), own_setc ho (own_notBlk ho b1 (by decide)), D1, fun q hq => ⟨(h.rx q hq).1.step S2, (h.rx q hq).2⟩, fun i x hx => ?_, h.mlo⟩, S2⟩
  rcases snoc_some hx with ⟨h1, h2⟩ | ⟨h1, h2⟩
  · rw [getD_snoc_lt _ _ _ (by omega)]
    exact ⟨(h.ru i x h2).1.step S2, (h.ru i x h2).2⟩
  · rw [getD_snoc_eq _ _ _ (by omega), ← h2]
    exact ⟨hp.1.step S2, hp.2⟩
/-- What came later is apart. -/
theorem MkS.frz (h : MkS N W mb dk vi vt va vc xs us ts l cs) {v : Value} {n base size : Nat} {e : TypeId} {us' : List Value} (ho : W1.ownsRow base e size v n us') (hb : W.heap.size ≤ base) : Frz W1 (mkZ mb dk vi vt va vc) v n us' ∧ ∀ g, v.ownBlock = some g → N ≤ g := by
  have hZ : ∀ b, mkZ mb dk vi vt va vc b → b < W.heap.size := fun b hb => by
    rcases hb with (rfl | hb | hb) | hb
    · exact h.lt
    · exact (h.oi.lt b hb).2
    · exact (h.ot.lt b hb).2
    · exact (h.ds.fl b hb).2
  refine ⟨Frz.of ho (fun b hb2 => by have := hZ b hb2; omega), fun g hg => ?_⟩
  have := (ho.lt g hg).1
  have := h.mlo
  have := h.lt
  omega
end
end Go.Proofs.Ytpehnggglolnoaa
