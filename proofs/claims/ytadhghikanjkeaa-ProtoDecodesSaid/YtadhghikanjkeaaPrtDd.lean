/- The drawn region of the law ProtoDecodes: its plan. -/
import Derived.Test.YtadhghikanjkeaaPrtDb
import Derived.Test.YtadhghikanjkeaaRgn
namespace Go.Proofs.Ytadhghikanjkeaa
open Go.RowKit

theorem rvTail2 {w : World} {ao : Option Addr} {n cap : Nat} {us : List Value} (h : Rv w (.slice ao n cap) n us) (hu : us.length = n) (p : Nat) (hp : p ≤ n) :
    ∀ A m C, A = (if cap = p then ao else ao.map (·.add p)) → m = n - p → C = cap - p → Rv w (.slice A m C) (n - p) (us.drop p) := by
  intro A m C hA hm hC
  rw [hA, hm, hC]
  obtain ⟨a', c', e1, _, e3⟩ := h.sliced 1 p n hp (Nat.le_refl _)
  cases e1
  have ht : (us.drop p).take (n - p) = us.drop p := List.take_of_length_le (by rw [List.length_drop]; omega)
  simp only [Nat.mul_one] at e3
  rwa [ht] at e3
theorem evalT {T : Array Value} {ds : List Deferred} {k : Nat} {v : Value} (h : T[k]? = some v) : Act.eval ⟨T, ds⟩ (.tmp k) = v := by
  simp [Act.eval, h]
/-- A fact of a row: the call's own, or only read. -/
def RowF (W0 : World) (own : Nat → Bool) (bsOf : Nat → List UInt8) (k : Nat) (v : Value) (W : World) : Prop :=
  if own k = true then W.ownsRow W0.heap.size 5 1 v (bsOf k).length ((bsOf k).map vB) else Rv W v (bsOf k).length ((bsOf k).map vB)
theorem rowF_keep (W0 : World) (own : Nat → Bool) (bsOf : Nat → List UInt8) : ∀ k v W W' g, RowF W0 own bsOf k v W → W.grownBy W' g → (∀ b, g = some b → v.ownBlock ≠ some b) → RowF W0 own bsOf k v W' := by
  intro k v W W' g h hg hv
  unfold RowF at h ⊢
  cases ho : own k
  · rw [ho, if_neg (by simp)] at h
    rw [if_neg (by simp)]
    refine rvGrown h hg ?_
    cases g with
    | none => exact .inl rfl
    | some b => exact .inr fun e => hv b rfl e.symm
  · rw [ho, if_pos rfl] at h
    rw [if_pos rfl]
    exact ownGrown h hg (fun b hb e => hv b e hb)
def planD (W0 : World) (bsOf : Nat → List UInt8) : Plan where
  S := [5, 7, 8, 10, 12, 13, 14, 20]
  d := fun k => 104 + k
  dead := fun k => if k = 8 then some 10 else if k = 10 then some 13 else none
  deps := fun k => if k = 10 then [8] else if k = 13 then [8, 10, 12] else if k = 14 then [8, 10, 12, 13] else []
  F := RowF W0 (fun k => k == 8 || k == 10) bsOf
/-- The rows of the region. -/
def bsD (few oth cr : List UInt8) (c : UInt8) (k : Nat) : List UInt8 :=
  if k = 5 then framedP few else if k = 7 then framedP oth else if k = 8 then [] else if k = 10 then cr else if k = 12 then [c] else if k = 13 then cr ++ [c] else if k = 14 then framedP (cr ++ [c]) else framedP (cr.take (cr.length - 1))
theorem planD_inj (W0 : World) (bsOf : Nat → List UInt8) : ∀ j ∈ (planD W0 bsOf).S, ∀ k ∈ (planD W0 bsOf).S, (planD W0 bsOf).d j = (planD W0 bsOf).d k → j = k := fun _ _ _ _ h => Nat.add_left_cancel h
section
variable {W0 : World} {bsOf : Nat → List UInt8} {l0 l : Array Bool} {T0 T : Array Value} {W W' : World} {v : Value}
/-- A row that is made anew. -/
theorem planD_new (h : RSt (planD W0 bsOf) 23 l0 W0 T0 l T W) (i : Nat) (hi : i ∈ [5, 7, 8, 12, 14, 20]) (hlf : l.getD i false = false) (hT : T0.size = 166) (hdep : i = 14 → l.getD 13 false = true)
    (B : Below W.heap.size W W') (hv : ∀ b, v.ownBlock = some b → W.heap.size ≤ b ∧ b < W'.heap.size) (hF : RowF W0 (fun k => k == 8 || k == 10) bsOf i v W') :
    RSt (planD W0 bsOf) 23 l0 W0 T0 (l.setIfInBounds i true) (T.setIfInBounds (104 + i) v) W' := by
  have hi2 : i = 5 ∨ i = 7 ∨ i = 8 ∨ i = 12 ∨ i = 14 ∨ i = 20 := by simpa using hi
  refine h.step (rowF_keep W0 _ bsOf) (planD_inj W0 bsOf) (i := i) (by rcases hi2 with rfl | rfl | rfl | rfl | rfl | rfl <;> simp [planD]) (by omega) hlf (by show 104 + i < T0.size; omega) (fun e he => ?_) ?_ (grownOf B) (fun b hb => by cases hb) (fun b hb => ⟨(hv b hb).2, .inl (hv b hb).1⟩) hF
  · by_cases h14 : i = 14
    · subst h14
      have h13 := hdep rfl
      have hc := h.clos 13 (by simp [planD]) h13
      have hd : e = 8 ∨ e = 10 ∨ e = 12 ∨ e = 13 := by simpa [planD] using he
      rcases hd with rfl | rfl | rfl | rfl
      · exact hc 8 (by simp [planD])
      · exact hc 10 (by simp [planD])
      · exact hc 12 (by simp [planD])
      · exact h13
    · exfalso
      rcases hi2 with rfl | rfl | rfl | rfl | rfl | rfl <;> first | (simp [planD] at he; done) | exact h14 rfl
  · rcases hi2 with rfl | rfl | rfl | rfl | rfl | rfl <;> simp [planD]
/-- What is known of a result that is only read. -/
theorem planD_rd (h : RSt (planD W0 bsOf) 23 l0 W0 T0 l T W) (i : Nat) (hi : i ∈ [5, 7, 12, 13, 14, 20]) (hl : l.getD i false = true) :
    ∃ v, T[104 + i]? = some v ∧ (∀ b, v.ownBlock = some b → W0.heap.size ≤ b ∧ b < W.heap.size) ∧ Rv W v (bsOf i).length ((bsOf i).map vB) := by
  have hi2 : i = 5 ∨ i = 7 ∨ i = 12 ∨ i = 13 ∨ i = 14 ∨ i = 20 := by simpa using hi
  obtain ⟨v, h1, h2, h3⟩ := h.fact i (by rcases hi2 with rfl | rfl | rfl | rfl | rfl | rfl <;> simp [planD]) hl
  refine ⟨v, h1, h2, ?_⟩
  have h4 := h3 (fun j hj => by rcases hi2 with rfl | rfl | rfl | rfl | rfl | rfl <;> simp [planD] at hj)
  have h5 : RowF W0 (fun k => k == 8 || k == 10) bsOf i v W := h4
  unfold RowF at h5
  rwa [if_neg (by rcases hi2 with rfl | rfl | rfl | rfl | rfl | rfl <;> simp)] at h5
/-- The row that is about to be turned. -/
theorem planD_own (h : RSt (planD W0 bsOf) 23 l0 W0 T0 l T W) (i j : Nat) (hij : (i = 8 ∧ j = 10) ∨ (i = 10 ∧ j = 13)) (hl : l.getD i false = true) (hj : l.getD j false = false) :
    ∃ v, T[104 + i]? = some v ∧ W.ownsRow W0.heap.size 5 1 v (bsOf i).length ((bsOf i).map vB) := by
  obtain ⟨v, h1, h2, h3⟩ := h.fact i (by rcases hij with ⟨rfl, rfl⟩ | ⟨rfl, rfl⟩ <;> simp [planD]) hl
  refine ⟨v, h1, ?_⟩
  have h4 := h3 (fun k hk => by
    have : k = j := by rcases hij with ⟨rfl, rfl⟩ | ⟨rfl, rfl⟩ <;> simp [planD] at hk <;> exact hk.symm
    rw [this]; exact hj)
  have h5 : RowF W0 (fun k => k == 8 || k == 10) bsOf i v W := h4
  unfold RowF at h5
  rwa [if_pos (by rcases hij with ⟨rfl, rfl⟩ | ⟨rfl, rfl⟩ <;> rfl)] at h5
/-- The row j, appended to. -/
theorem planD_app (h : RSt (planD W0 bsOf) 23 l0 W0 T0 l T W) (i j : Nat) (hij : (j = 8 ∧ i = 10) ∨ (j = 10 ∧ i = 13)) (hlj : l.getD j false = true) (hlf : l.getD i false = false) (h12 : i = 13 → l.getD 12 false = true) (hT : T0.size = 166)
    {u : Value} (hu : T[104 + j]? = some u) (g : W.grownBy W' u.ownBlock) (s : SameOrNew W u v) (hvl : ∀ b, v.ownBlock = some b → b < W'.heap.size) (hF : RowF W0 (fun k => k == 8 || k == 10) bsOf i v W') :
    RSt (planD W0 bsOf) 23 l0 W0 T0 (l.setIfInBounds i true) (T.setIfInBounds (104 + i) v) W' := by
  have hjS : j ∈ (planD W0 bsOf).S := by rcases hij with ⟨rfl, rfl⟩ | ⟨rfl, rfl⟩ <;> simp [planD]
  refine h.step (rowF_keep W0 _ bsOf) (planD_inj W0 bsOf) (i := i) (by rcases hij with ⟨rfl, rfl⟩ | ⟨rfl, rfl⟩ <;> simp [planD]) (by omega) hlf (by show 104 + i < T0.size; omega) (fun e he => ?_) ?_ g (fun b hb => ⟨j, hjS, ?_, hlj, ?_, u, hu, hb⟩) (fun b hb => ⟨hvl b hb, ?_⟩) hF
  · rcases hij with ⟨rfl, rfl⟩ | ⟨rfl, rfl⟩
    · have : e = 8 := by simpa [planD] using he
      rw [this]; exact hlj
    · have hd : e = 8 ∨ e = 10 ∨ e = 12 := by simpa [planD] using he
      rcases hd with rfl | rfl | rfl
      · exact h.clos 10 (by simp [planD]) hlj 8 (by simp [planD])
      · exact hlj
      · exact h12 rfl
  · rcases hij with ⟨rfl, rfl⟩ | ⟨rfl, rfl⟩ <;> simp [planD]
  · rcases hij with ⟨rfl, rfl⟩ | ⟨rfl, rfl⟩ <;> simp [planD]
  · intro k hk
    have : k = i := by rcases hij with ⟨rfl, rfl⟩ | ⟨rfl, rfl⟩ <;> simp [planD] at hk <;> exact hk.symm
    rw [this]; exact hlf
  · rcases s with s | s
    · rw [s] at hb; exact .inr hb
    · exact .inl (s b hb)
end
theorem litCell (W : World) (us : List Value) (T : TypeId) (j : Nat) (u : Value) (h : us[j]? = some u) : (W.alloc (.cells us.toArray T)).cell? ⟨W.heap.size, j, none⟩ = some u := by
  unfold World.cell?
  rw [World.alloc_heap_new]
  simp [h]
/-- One of the rows that are decoded. -/
structure RowG (W : World) (a : Option Addr) (cap : Nat) (bs : List UInt8) : Prop where
  rv : Rv W (.slice a bs.length cap) bs.length (bs.map vB)
  lo : Low W.heap.size (.slice a bs.length cap)
  len : bs.length ≤ 1000000
theorem RowG.later {W W' : World} {a : Option Addr} {cap : Nat} {bs : List UInt8} (h : RowG W a cap bs) (B : Below W.heap.size W W') : RowG W' a cap bs := ⟨h.rv.below B, h.lo.mono B.size, h.len⟩
theorem RowG.made {w W : World} {a : Option Addr} {cap n : Nat} {bs : List UInt8} (h : Made w W 5 (.slice a n cap) (bs.map vB)) (hn : n = bs.length) (hl : bs.length ≤ 1000000) : RowG W a cap bs := by
  subst hn
  exact ⟨h.rvB, h.low, hl⟩
end Go.Proofs.Ytadhghikanjkeaa
