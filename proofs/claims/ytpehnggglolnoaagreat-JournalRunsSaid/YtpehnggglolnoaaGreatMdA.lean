/- The model of a disk: how it lies in memory. -/
import Derived.Test.YtpehnggglolnoaaGreatDskL
namespace Go.Proofs.YtpehnggglolnoaaGreat
open Go.RowKit

theorem Tryz.infoSb : (Tryz.prog.info? 39).map (fun i => (i.zero, i.size, i.bytes)) = some (some (.slice none 0 0), 1, 24) := by kernel_rfl
theorem Tryz.elSb : Elem Tryz.prog 29 39 (.slice none 0 0) 1 24 := ⟨Tryz.underlying29, Tryz.infoSb, rfl, by decide, by decide⟩
/-- The five cells. -/
def moO (room : Int) (gB gF : Nat) (off : Bool) (pl : Int) : Obj := .cells #[.int .i64 room, .slice (some ⟨gB, 0, none⟩) 64 64, .slice (some ⟨gF, 0, none⟩) 64 64, .bool off, .int .i64 pl] 50 (0, 0)
/-- The model in block q, its table of rows in gB, of the durable bytes in gF; its blocks are Y. -/
structure MoR (w : World) (q gB gF : Nat) (vs : List Value) (bs : Nat → List UInt8) (fm : List Int) (room : Int) (off : Bool) (pl : Int) (Y : Nat → Prop) : Prop where
  blk : w.heap[q]? = some (moO room gB gF off pl)
  ob : w.ownsRow 0 39 1 (.slice (some ⟨gB, 0, none⟩) 64 64) 64 vs
  of : w.ownsRow 0 3 1 (.slice (some ⟨gF, 0, none⟩) 64 64) 64 (fm.map (Value.int .i64))
  qb : q ≠ gB
  qf : q ≠ gF
  bf : gB ≠ gF
  yq : Y q
  yb : Y gB
  yf : Y gF
  row : ∀ (i : Nat) (v : Value), vs[i]? = some v → w.ownsRow 0 5 1 v (bs i).length ((bs i).map vB) ∧ ∀ b, v.ownBlock = some b → Y b ∧ b ≠ q ∧ b ≠ gB ∧ b ≠ gF
  sep : ∀ (i j : Nat) (u v : Value) (b : Nat), i ≠ j → vs[i]? = some u → vs[j]? = some v → u.ownBlock = some b → v.ownBlock ≠ some b
  yl : ∀ b, Y b → b < w.heap.size
section
variable {w w' : World} {q gB gF : Nat} {vs : List Value} {bs : Nat → List UInt8} {fm : List Int} {room : Int} {off : Bool} {pl : Int} {Y : Nat → Prop}
theorem MoR.lt (h : MoR w q gB gF vs bs fm room off pl Y) : q < w.heap.size := (Array.getElem?_eq_some_iff.1 h.blk).1
theorem MoR.c0 (h : MoR w q gB gF vs bs fm room off pl Y) : w.cell? ⟨q, 0, none⟩ = some (.int .i64 room) := by have := h.blk; unfold moO at this; simp [World.cell?, this]
theorem MoR.c1 (h : MoR w q gB gF vs bs fm room off pl Y) : w.cell? ⟨q, 1, none⟩ = some (.slice (some ⟨gB, 0, none⟩) 64 64) := by have := h.blk; unfold moO at this; simp [World.cell?, this]
theorem MoR.c2 (h : MoR w q gB gF vs bs fm room off pl Y) : w.cell? ⟨q, 2, none⟩ = some (.slice (some ⟨gF, 0, none⟩) 64 64) := by have := h.blk; unfold moO at this; simp [World.cell?, this]
theorem MoR.c3 (h : MoR w q gB gF vs bs fm room off pl Y) : w.cell? ⟨q, 3, none⟩ = some (.bool off) := by have := h.blk; unfold moO at this; simp [World.cell?, this]
theorem MoR.c4 (h : MoR w q gB gF vs bs fm room off pl Y) : w.cell? ⟨q, 4, none⟩ = some (.int .i64 pl) := by have := h.blk; unfold moO at this; simp [World.cell?, this]
theorem MoR.fz (h : MoR w q gB gF vs bs fm room off pl Y) (j : Nat) : w.frozen? ⟨q, j, none⟩ = false := by have := h.blk; unfold moO at this; simp [World.frozen?, this]
theorem MoR.vl (h : MoR w q gB gF vs bs fm room off pl Y) : vs.length = 64 := by have := h.ob.1; omega
theorem MoR.fl (h : MoR w q gB gF vs bs fm room off pl Y) : fm.length = 64 := by have := h.of.1; rw [List.length_map] at this; omega
/-- A row: its cell in the table, its slice. -/
theorem MoR.at (h : MoR w q gB gF vs bs fm room off pl Y) {i : Nat} (hi : i < 64) : ∃ a c, vs[i]? = some (.slice a (bs i).length c) ∧ w.cell? ⟨gB, i, none⟩ = some (.slice a (bs i).length c) ∧ w.ownsRow 0 5 1 (.slice a (bs i).length c) (bs i).length ((bs i).map vB) ∧
    ∀ b, (Value.slice a (bs i).length c).ownBlock = some b → Y b ∧ b ≠ q ∧ b ≠ gB ∧ b ≠ gF := by
  have hlt : i < vs.length := by rw [h.vl]; exact hi
  have hv := List.getElem?_eq_getElem hlt
  obtain ⟨h1, h2⟩ := h.row i _ hv
  have hc := h.ob.cellAt (j := i) (by omega)
  rw [hv] at hc
  obtain ⟨a, c, e⟩ := own_isSlice h1
  rw [e] at hv hc h1 h2
  exact ⟨a, c, hv, hc, h1, h2⟩
theorem MoR.fat (h : MoR w q gB gF vs bs fm room off pl Y) {i : Nat} (hi : i < 64) {d : Int} (hd : fm[i]? = some d) : w.cell? ⟨gF, i, none⟩ = some (.int .i64 d) := by
  have hc := h.of.cellAt (j := i) (by omega)
  rw [List.getElem?_map, hd] at hc
  exact hc
theorem MoR.kept (h : MoR w q gB gF vs bs fm room off pl Y) (hs : w.heap.size ≤ w'.heap.size) (hb : ∀ b, Y b → w'.heap[b]? = w.heap[b]?) : MoR w' q gB gF vs bs fm room off pl Y :=
  ⟨(hb q h.yq).trans h.blk, own_same h.ob (fun b e => hb b (by cases e; exact h.yb)), own_same h.of (fun b e => hb b (by cases e; exact h.yf)), h.qb, h.qf, h.bf, h.yq, h.yb, h.yf,
    fun i v hv => ⟨own_same (h.row i v hv).1 (fun b e => hb b ((h.row i v hv).2 b e).1), (h.row i v hv).2⟩, h.sep, fun b hY => Nat.lt_of_lt_of_le (h.yl b hY) hs⟩
theorem MoR.later (h : MoR w q gB gF vs bs fm room off pl Y) (B : Below w.heap.size w w') : MoR w' q gB gF vs bs fm room off pl Y := h.kept B.size (fun b hY => B.block b (h.yl b hY))
/-- One of the model's own cells turned. -/
theorem MoR.turn (h : MoR w q gB gF vs bs fm room off pl Y) {off' : Bool} {pl' : Int} (hb : w'.heap[q]? = some (moO room gB gF off' pl')) (hs : w.heap.size ≤ w'.heap.size) (hk : ∀ k, k < w.heap.size → k ≠ q → w'.heap[k]? = w.heap[k]?) : MoR w' q gB gF vs bs fm room off' pl' Y := by
  have hx := fun b (hb : Y b) (hp : b ≠ q) => hk b (h.yl b hb) hp
  exact ⟨hb, own_same h.ob (fun b e => by cases e; exact hx _ h.yb (fun e => h.qb e.symm)), own_same h.of (fun b e => by cases e; exact hx _ h.yf (fun e => h.qf e.symm)), h.qb, h.qf, h.bf, h.yq, h.yb, h.yf,
    fun i v hv => ⟨own_same (h.row i v hv).1 (fun b e => hx b ((h.row i v hv).2 b e).1 ((h.row i v hv).2 b e).2.1), (h.row i v hv).2⟩, h.sep, fun b hY => Nat.lt_of_lt_of_le (h.yl b hY) hs⟩
theorem MoR.tab (h : MoR w q gB gF vs bs fm room off pl Y) (j : Nat) : w.frozen? ⟨gB, j, none⟩ = false := h.ob.frozenAt j
theorem MoR.ftab (h : MoR w q gB gF vs bs fm room off pl Y) (j : Nat) : w.frozen? ⟨gF, j, none⟩ = false := h.of.frozenAt j
/-- 'd.B[i] = v'. -/
theorem MoR.store (h : MoR w q gB gF vs bs fm room off pl Y) {i : Nat} (hi : i < 64) {v : Value} {b : List UInt8} (hv : w.ownsRow 0 5 1 v b.length (b.map vB))
    (hvb : ∀ x, v.ownBlock = some x → x ≠ q ∧ x ≠ gB ∧ x ≠ gF ∧ ∀ j u, j ≠ i → vs[j]? = some u → u.ownBlock ≠ some x) :
    MoR (w.setCell ⟨gB, i, none⟩ v) q gB gF (vs.set i v) (fun j => if j = i then b else bs j) fm room off pl (fun x => Y x ∨ v.ownBlock = some x) := by
  have hk : ∀ k, k ≠ gB → (w.setCell ⟨gB, i, none⟩ v).heap[k]? = w.heap[k]? := fun k hk => Below.heap_setCell _ _ _ _ hk
  have hs : (w.setCell ⟨gB, i, none⟩ v).heap.size = w.heap.size := World.size_setCell _ _ _
  refine ⟨(hk q h.qb).trans h.blk, (h.ob.stored i v).1, own_same h.of (fun b e => by cases e; exact hk _ (fun e => h.bf e.symm)), h.qb, h.qf, h.bf, .inl h.yq, .inl h.yb, .inl h.yf, fun j u hu => ?_, fun j k u u' x hjk hu hu' hx hx' => ?_, fun x hx => ?_⟩
  · rw [List.getElem?_set] at hu
    by_cases e : i = j
    · subst e
      rw [if_pos rfl, if_pos (by rw [h.vl]; exact hi)] at hu
      cases hu
      simp only [if_true]
      exact ⟨own_same hv (fun x hx => hk x (hvb x hx).2.1), fun x hx => ⟨.inr hx, (hvb x hx).1, (hvb x hx).2.1, (hvb x hx).2.2.1⟩⟩
    · rw [if_neg e] at hu
      have e2 : ¬ j = i := fun e2 => e e2.symm
      simp only [if_neg e2]
      obtain ⟨h1, h2⟩ := h.row j u hu
      exact ⟨own_same h1 (fun x hx => hk x (h2 x hx).2.2.1), fun x hx => ⟨.inl (h2 x hx).1, (h2 x hx).2⟩⟩
  · rw [List.getElem?_set] at hu hu'
    by_cases e : i = j
    · subst e
      rw [if_pos rfl, if_pos (by rw [h.vl]; exact hi)] at hu
      rw [if_neg hjk] at hu'
      cases hu
      exact (hvb x hx).2.2.2 k u' (fun e => hjk e.symm) hu' hx'
    · rw [if_neg e] at hu
      by_cases e2 : i = k
      · subst e2
        rw [if_pos rfl, if_pos (by rw [h.vl]; exact hi)] at hu'
        cases hu'
        exact (hvb x hx').2.2.2 j u hjk hu hx
      · rw [if_neg e2] at hu'
        exact h.sep j k u u' x hjk hu hu' hx hx'
  · rw [hs]
    rcases hx with hx | hx
    · exact h.yl x hx
    · exact (hv.lt x hx).2
/-- 'd.Firm[i] = d'. -/
theorem MoR.firm (h : MoR w q gB gF vs bs fm room off pl Y) (i : Nat) (d : Int) : MoR (w.setCell ⟨gF, i, none⟩ (.int .i64 d)) q gB gF vs bs (fm.set i d) room off pl Y := by
  have hk : ∀ k, k ≠ gF → (w.setCell ⟨gF, i, none⟩ (.int .i64 d)).heap[k]? = w.heap[k]? := fun k hk => Below.heap_setCell _ _ _ _ hk
  have hs : (w.setCell ⟨gF, i, none⟩ (.int .i64 d)).heap.size = w.heap.size := World.size_setCell _ _ _
  exact ⟨(hk q h.qf).trans h.blk, own_same h.ob (fun b e => by cases e; exact hk _ h.bf), by rw [List.map_set]; exact (h.of.stored i (.int .i64 d)).1, h.qb, h.qf, h.bf, h.yq, h.yb, h.yf,
    fun j v hv => ⟨own_same (h.row j v hv).1 (fun b e => hk b ((h.row j v hv).2 b e).2.2.2), (h.row j v hv).2⟩, h.sep, fun b hY => by rw [hs]; exact h.yl b hY⟩
theorem MoR.sameY (h : MoR w q gB gF vs bs fm room off pl Y) {Z : Nat → Prop} (e : ∀ x, Y x ↔ Z x) : MoR w q gB gF vs bs fm room off pl Z := by
  rw [show Z = Y from funext fun x => propext (e x).symm]
  exact h
end
/-- What every disk is. -/
structure DOk (D : Dk) : Prop where
  out : ∀ k : Int, ¬ (0 ≤ k ∧ k < 64) → D.fs k = ([], 0)
  dur : ∀ k, (D.fs k).2 ≤ (D.fs k).1.length
  room : 0 ≤ D.room ∧ D.room ≤ 16777216
  used : (D.used : Int) ≤ D.room
  left : D.left ≤ 9223372036854775807
theorem DiskX.ok {ex : Int → Prop} {w : World} {p mb : Nat} {F : Int → Option Value} {ks : List Int} {X : Nat → Prop} {D : Dk} (h : DiskX ex w p mb F ks X D) : DOk D := by
  refine ⟨fun k hk => ?_, h.dur, h.room, h.used, h.left⟩
  have he : (D.fs k).1 = [] := Decidable.byContradiction fun he => hk ⟨(h.ful k he).1, (h.ful k he).2.1⟩
  rw [← Prod.eta (D.fs k), he, (h.emp k he).2]
def durs (D : Dk) : List Int := (List.range 64).map fun (i : Nat) => ((D.fs (i : Int)).2 : Int)
theorem durs_at (D : Dk) {i : Nat} (hi : i < 64) : (durs D)[i]? = some ((D.fs (i : Int)).2 : Int) := by
  unfold durs
  rw [List.getElem?_map, List.getElem?_range hi]
  rfl
/-- The plan as one number. -/
def PlanOf (D : Dk) (pl : Int) : Prop := (D.armed = true → pl = (D.left : Int)) ∧ (D.armed = false → -2 ≤ pl ∧ pl < 0)
def MoX (w : World) (q gB gF : Nat) (vs : List Value) (pl : Int) (Y : Nat → Prop) (D : Dk) : Prop := MoR w q gB gF vs (fun i => (D.fs (i : Int)).1) (durs D) D.room D.off pl Y ∧ PlanOf D pl ∧ DOk D
/-- The model of D lies in block q; its blocks are Y. -/
def MAt (w : World) (q : Nat) (Y : Nat → Prop) (D : Dk) : Prop := ∃ gB gF vs pl, MoX w q gB gF vs pl Y D
section
variable {w w' : World} {q : Nat} {X X' Y Z : Nat → Prop} {D : Dk}
theorem MAt.yl (h : MAt w q Y D) : ∀ b, Y b → b < w.heap.size := by obtain ⟨_, _, _, _, h⟩ := h; exact h.1.yl
theorem MAt.ok (h : MAt w q Y D) : DOk D := by obtain ⟨_, _, _, _, h⟩ := h; exact h.2.2
theorem MAt.later (h : MAt w q Y D) (B : Below w.heap.size w w') : MAt w' q Y D := by obtain ⟨_, _, _, _, h⟩ := h; exact ⟨_, _, _, _, h.1.later B, h.2⟩
theorem MAt.other (h : MAt w q Z D) (S : DStep X X' w w') (hs : Sep X Z) : MAt w' q Z D := by
  obtain ⟨_, _, _, _, h⟩ := h
  exact ⟨_, _, _, _, h.1.kept S.size (fun b hb => S.block b (h.1.yl b hb) (fun hx => hs b hx hb)), h.2⟩
theorem DAt.ok {p : Nat} (h : DAt w p X D) : DOk D := by obtain ⟨_, _, _, h⟩ := h; exact h.ok
end
end Go.Proofs.YtpehnggglolnoaaGreat
