/- The model's desk: what its writes leave. -/
import Derived.Test.YtpehnggglolnoaaEdC
import Derived.Test.YtpehnggglolnoaaHeld
namespace Go.Proofs.Ytpehnggglolnoaa
open Go.RowKit

theorem Try.infoItz : (Try.prog.info? 47).map (fun i => (i.zero, i.size, i.bytes)) = some (some (.agg #[.int .i64 0, .int .i64 0, .int .i64 0, .int .i64 0, .int .i64 0, .slice none 0 0]), 6, 64) := by kernel_rfl
theorem Try.elIt : Elem Try.prog 32 47 (.agg #[.int .i64 0, .int .i64 0, .int .i64 0, .int .i64 0, .int .i64 0, .slice none 0 0]) 6 64 := ⟨Try.underlying32, Try.infoItz, rfl, by decide, by decide⟩
def ItV.val (p : ItV) : Value := .agg #[.int .i64 (p.x.c : Int), .int .i64 (p.x.n : Int), .int .i64 (p.x.b : Int), .int .i64 p.x.e.a, .int .i64 p.x.e.d, p.ed.ins]
/-- What a desk lies in. -/
def dkF (dk : Nat) (va vc vh : Value) : Nat → Prop := fun b => b = dk ∨ va.ownBlock = some b ∨ vc.ownBlock = some b ∨ vh.ownBlock = some b
def own1 (v : Value) : Nat → Prop := fun b => v.ownBlock = some b
theorem DStep.grownA {w w' : World} {v v' : Value} (o : Obj) (hg : (w.alloc o).grownBy w' v.ownBlock) (hs : SameOrNew (w.alloc o) v v') : DStep (own1 v) (own1 v') w w' :=
  (DStep.ofBelow _ ((Below.refl w.heap.size w).alloc (Nat.le_refl _) o)).trans (DStep.grown hg hs)
theorem DStep.toNil (v : Value) (w : World) : DStep (own1 v) (own1 (.slice none 0 0)) w w := ⟨rfl, rfl, rfl, Nat.le_refl _, fun _ _ _ => rfl, fun _ h => by cases h⟩
section
variable {W W1 : World} {B dk : Nat} {va vc vh v' : Value} {l l' : List EdV} {cs cs' : List Nat} {hs hs' : List ItV}
theorem DeskX.na (h : DeskX W B dk va vc vh l cs hs) : va.ownBlock ≠ some dk := own_notBlk h.oa h.blk (by decide)
theorem DeskX.nc (h : DeskX W B dk va vc vh l cs hs) : vc.ownBlock ≠ some dk := own_notBlk h.oc h.blk (by decide)
theorem DeskX.nh (h : DeskX W B dk va vc vh l cs hs) : vh.ownBlock ≠ some dk := own_notBlk h.oh h.blk (by decide)
theorem DeskX.fl (h : DeskX W B dk va vc vh l cs hs) : ∀ b, dkF dk va vc vh b → B ≤ b ∧ b < W.heap.size := fun b hb => by
  rcases hb with rfl | hb | hb | hb
  · exact ⟨h.lo, h.lt⟩
  · exact h.oa.lt b hb
  · exact h.oc.lt b hb
  · exact h.oh.lt b hb
theorem own_setc {base size n b j : Nat} {e : TypeId} {v x : Value} {xs : List Value} (h : W.ownsRow base e size v n xs) (hb : v.ownBlock ≠ some b) : (W.setCell ⟨b, j, none⟩ x).ownsRow base e size v n xs :=
  own_same h (fun g hg => Below.heap_setCell _ _ _ _ (fun e => hb (by rw [hg, show g = b from e])))
theorem DeskX.setH (h : DeskX W B dk va vc vh l cs hs) (S : DStep (own1 vh) (own1 v') W W1) (ho : W1.ownsRow B 47 6 v' hs'.length (itcells hs')) :
    DeskX (W1.setCell ⟨dk, 2, none⟩ v') B dk va vc v' l cs hs' ∧ DStep (dkF dk va vc vh) (dkF dk va vc v') W (W1.setCell ⟨dk, 2, none⟩ v') := by
  have b1 := (S.block dk h.lt (fun e => h.nh e)).trans h.blk
  have a1 := own_step h.oa S (own_types h.oa h.oh (by decide))
  have c1 := own_step h.oc S (own_types h.oc h.oh (by decide))
  refine ⟨⟨heap_set3 b1 2 v', own_setc a1 (own_notBlk a1 b1 (by decide)), own_setc c1 (own_notBlk c1 b1 (by decide)), own_setc ho (own_notBlk ho b1 (by decide)), h.lo⟩, ?_⟩
  have S1 : DStep (dkF dk va vc vh) (dkF dk va vc v') W W1 := ⟨S.os, S.tape, S.output, S.size, fun k hk hX => S.block k hk (fun e => hX (.inr (.inr (.inr e)))), fun k hk => by
    rcases hk with hk | hk | hk | hk
    · exact .inl (.inl hk)
    · exact .inl (.inr (.inl hk))
    · exact .inl (.inr (.inr (.inl hk)))
    · exact (S.grow k hk).elim (fun e => .inl (.inr (.inr (.inr e)))) .inr⟩
  exact S1.set (.inl (.inl rfl)) v'
theorem DeskX.setA (h : DeskX W B dk va vc vh l cs hs) (S : DStep (own1 va) (own1 v') W W1) (ho : W1.ownsRow B 45 3 v' l'.length (edcells l')) :
    DeskX (W1.setCell ⟨dk, 0, none⟩ v') B dk v' vc vh l' cs hs ∧ DStep (dkF dk va vc vh) (dkF dk v' vc vh) W (W1.setCell ⟨dk, 0, none⟩ v') := by
  have b1 := (S.block dk h.lt (fun e => h.na e)).trans h.blk
  have a1 := own_step h.oh S (own_types h.oh h.oa (by decide))
  have c1 := own_step h.oc S (own_types h.oc h.oa (by decide))
  refine ⟨⟨heap_set3 b1 0 v', own_setc ho (own_notBlk ho b1 (by decide)), own_setc c1 (own_notBlk c1 b1 (by decide)), own_setc a1 (own_notBlk a1 b1 (by decide)), h.lo⟩, ?_⟩
  have S1 : DStep (dkF dk va vc vh) (dkF dk v' vc vh) W W1 := ⟨S.os, S.tape, S.output, S.size, fun k hk hX => S.block k hk (fun e => hX (.inr (.inl e))), fun k hk => by
    rcases hk with hk | hk | hk | hk
    · exact .inl (.inl hk)
    · exact (S.grow k hk).elim (fun e => .inl (.inr (.inl e))) .inr
    · exact .inl (.inr (.inr (.inl hk)))
    · exact .inl (.inr (.inr (.inr hk)))⟩
  exact S1.set (.inl (.inl rfl)) v'
theorem DeskX.setC (h : DeskX W B dk va vc vh l cs hs) (S : DStep (own1 vc) (own1 v') W W1) (ho : W1.ownsRow B 3 1 v' cs'.length (cs'.map fun c : Nat => Value.int .i64 (c : Int))) :
    DeskX (W1.setCell ⟨dk, 1, none⟩ v') B dk va v' vh l cs' hs ∧ DStep (dkF dk va vc vh) (dkF dk va v' vh) W (W1.setCell ⟨dk, 1, none⟩ v') := by
  have b1 := (S.block dk h.lt (fun e => h.nc e)).trans h.blk
  have a1 := own_step h.oh S (own_types h.oh h.oc (by decide))
  have c1 := own_step h.oa S (own_types h.oa h.oc (by decide))
  refine ⟨⟨heap_set3 b1 1 v', own_setc c1 (own_notBlk c1 b1 (by decide)), own_setc ho (own_notBlk ho b1 (by decide)), own_setc a1 (own_notBlk a1 b1 (by decide)), h.lo⟩, ?_⟩
  have S1 : DStep (dkF dk va vc vh) (dkF dk va v' vh) W W1 := ⟨S.os, S.tape, S.output, S.size, fun k hk hX => S.block k hk (fun e => hX (.inr (.inr (.inl e)))), fun k hk => by
    rcases hk with hk | hk | hk | hk
    · exact .inl (.inl hk)
    · exact .inl (.inr (.inl hk))
    · exact (S.grow k hk).elim (fun e => .inl (.inr (.inr (.inl e)))) .inr
    · exact .inl (.inr (.inr (.inr hk)))⟩
  exact S1.set (.inl (.inl rfl)) v'
end
theorem edcells_snoc (l : List EdV) (p : EdV) : edcells (l ++ [p]) = edcells l ++ p.cells := by simp [edcells]
theorem itcells_snoc (l : List ItV) (p : ItV) : itcells (l ++ [p]) = itcells l ++ p.cells := by simp [itcells]
/-- The edit moved over those that came later, with its symbols' place. -/
def takeV (l : List EdV) (x : ItV) : EdV := (l.drop x.x.b).foldl EdV.mv x.ed
theorem foldl_mv (l : List EdV) (p : EdV) : (l.foldl EdV.mv p).e = (l.map (·.e)).foldl mvE p.e ∧ (l.foldl EdV.mv p).ao = p.ao ∧ (l.foldl EdV.mv p).c = p.c := by
  induction l generalizing p with
  | nil => exact ⟨rfl, rfl, rfl⟩
  | cons o l ih =>
    rw [List.foldl_cons, List.map_cons, List.foldl_cons]
    exact ih (p.mv o)
theorem takeV_e (l : List EdV) (x : ItV) : (takeV l x).e = takeE (l.map (·.e)) x.x := by
  unfold takeV takeE
  rw [(foldl_mv _ _).1, List.map_drop]
  rfl
theorem takeV_ins (l : List EdV) (x : ItV) : (takeV l x).ins = x.ed.ins := by
  unfold EdV.ins takeV
  rw [(foldl_mv _ _).1, (foldl_mv _ _).2.1, (foldl_mv _ _).2.2, foldl_s]
end Go.Proofs.Ytpehnggglolnoaa
