/- Package pool: Add. -/
import Derived.Test.YtfdacckkdjpjhaaPlE
import Derived.Test.YtfdacckkdjpjhaaClnB
import Derived.Test.YtfdacckkdjpjhaaHeld
namespace Go.Proofs.Ytfdacckkdjpjhaa
open Go.RowKit

def insI (x : Int) : List Int → List Int
  | [] => [x]
  | y :: l => if x < y then x :: y :: l else y :: insI x l
theorem insI_mem (x y : Int) : ∀ l, y ∈ insI x l ↔ y = x ∨ y ∈ l
  | [] => by simp [insI]
  | z :: l => by
    rw [insI]
    split
    · simp
    · rw [List.mem_cons, insI_mem x y l, List.mem_cons]
      constructor
      · rintro (h | h | h) <;> simp [h]
      · rintro (h | h | h) <;> simp [h]
theorem insI_len (x : Int) : ∀ l, (insI x l).length = l.length + 1
  | [] => rfl
  | z :: l => by
    rw [insI]
    split
    · rfl
    · rw [List.length_cons, insI_len x l, List.length_cons]
theorem insI_ord (x : Int) : ∀ l, l.Pairwise (· < ·) → x ∉ l → (insI x l).Pairwise (· < ·)
  | [], _, _ => by simp [insI]
  | z :: l, h, hx => by
    rw [List.pairwise_cons] at h
    rw [insI]
    split
    · rename_i hlt
      refine List.pairwise_cons.2 ⟨fun y hy => ?_, List.pairwise_cons.2 h⟩
      rcases List.mem_cons.1 hy with rfl | hy
      · exact hlt
      · have := h.1 y hy; omega
    · rename_i hlt
      have hne : x ≠ z := fun e => hx (by simp [e])
      refine List.pairwise_cons.2 ⟨fun y hy => ?_, insI_ord x l h.2 (fun h => hx (List.mem_cons_of_mem _ h))⟩
      rcases (insI_mem x y l).1 hy with rfl | hy
      · omega
      · exact h.1 y hy
def freshE (b : List UInt8) : En := ⟨b, [], false, false, ⟨0, 0, 0, []⟩⟩
def Pl.add (D : Pl) (id : Int) (b : List UInt8) : Int × Pl :=
  if id < 0 then (1, D) else if 65536 < b.length ∨ 1024 ≤ D.ids.length then (4, D) else match D.ts id with
  | some _ => (8, D)
  | none => (0, { D with ids := insI id D.ids, ts := fun j => if j = id then some (freshE b) else D.ts j })
theorem ok_add {D : Pl} (h : POk D) {id : Int} {b : List UInt8} (h0 : 0 ≤ id ∧ id ≤ 9223372036854775807) (hb : b.length ≤ 65536) (hn : D.ids.length < 1024) (hk : D.ts id = none) : POk { D with ids := insI id D.ids, ts := fun j => if j = id then some (freshE b) else D.ts j } := by
  have hni : id ∉ D.ids := fun hm => by
    obtain ⟨e, he⟩ := (h.mem id).1 hm
    rw [hk] at he
    cases he
  have old : ∀ j f, (if j = id then some (freshE b) else D.ts j) = some f → f = freshE b ∨ D.ts j = some f := fun j f hf => by
    split at hf
    · cases hf; exact .inl rfl
    · exact .inr hf
  refine ⟨insI_ord _ _ h.ord hni, fun j => ?_, fun j hj => ?_, by show (insI id D.ids).length ≤ 1024; rw [insI_len]; omega, h.tmo, h.tck, h.wsl, fun j f hf => ?_, fun j f hf t ht => ?_, fun j u hu hh => ?_⟩
  · show j ∈ insI id D.ids ↔ ∃ f, (if j = id then some (freshE b) else D.ts j) = some f
    rw [insI_mem, h.mem j]
    by_cases q : j = id
    · simp [q]
    · simp [q]
  · rcases (insI_mem _ _ _).1 hj with rfl | hj
    · exact h0
    · exact h.idr j hj
  · rcases old j f hf with rfl | hf
    · exact ⟨hb, Nat.zero_le _⟩
    · exact h.bod j f hf
  · rcases old j f hf with rfl | hf
    · cases ht
    · exact h.tri j f hf t ht
  · obtain ⟨f, hf, hn⟩ := h.has j u hu hh
    have q : u.task ≠ id := fun e => by rw [e, hk] at hf; cases hf
    exact ⟨f, by show (if u.task = id then some (freshE b) else D.ts u.task) = _; rw [if_neg q]; exact hf, hn⟩
section
variable {w w' : World} {p mb : Nat} {wv : Value} {F : Int → Option Value} {ks : List Int} {B : Int → Nat} {TV BV AV : Int → Value} {X R X' Z : Nat → Prop} {D : Pl}
/-- The map has as many keys as there are tasks. -/
theorem PX.count (h : PX w p mb wv F ks B TV BV AV X R D) : ks.Perm D.ids := by
  refine (List.perm_ext_iff_of_nodup h.map.nodup (h.ok.ord.imp (fun h => Int.ne_of_lt h))).2 (fun k => ?_)
  rw [h.map.mem k, h.ok.mem k]
  constructor
  · rintro ⟨v, hv⟩
    cases hk : D.ts k with
    | none => rw [h.emp k hk] at hv; cases hv
    | some e => exact ⟨e, rfl⟩
  · rintro ⟨e, he⟩
    exact ⟨_, (h.en k e he).1⟩
theorem PX.find (h : PX w p mb wv F ks B TV BV AV X R D) (k : Int) : (F k).isSome = (D.ts k).isSome := by
  cases hk : D.ts k with
  | none => rw [h.emp k hk]; rfl
  | some e => rw [(h.en k e hk).1]; rfl
/-- A new entry. -/
theorem PX.insert {id : Int} {b : List UInt8} {F' : Int → Option Value} {ks' : List Int} {eb : Nat} {bv : Value} (h : PX w p mb wv F ks B TV BV AV X R D) (hk : D.ts id = none) (ok : POk { D with ids := insI id D.ids, ts := fun j => if j = id then some (freshE b) else D.ts j })
    (hF : F' = fun x => if x = id then some (.pointer (some ⟨eb, 0, none⟩)) else F x) (hM : MapF w' mb F' ks') (hb : w'.heap[eb]? = some (enO (freshE b) bv (.slice none 0 0) (.slice none 0 0))) (hge : w.heap.size ≤ eb) (hs : w.heap.size ≤ w'.heap.size) (ho : ∀ x, x < w.heap.size → x ≠ mb → w'.heap[x]? = w.heap[x]?)
    (hbv : Rv w' bv b.length (b.map vB)) (hbn : ∀ g, bv.ownBlock = some g → w.heap.size ≤ g ∧ g < w'.heap.size ∧ g ≠ eb) :
    PX w' p mb wv F' ks' (fun j => if j = id then eb else B j) (fun j => if j = id then .slice none 0 0 else TV j) (fun j => if j = id then bv else BV j) (fun j => if j = id then .slice none 0 0 else AV j) (fun x => X x ∨ x = eb) (fun x => R x ∨ bv.ownBlock = some x)
      { D with ids := insI id D.ids, ts := fun j => if j = id then some (freshE b) else D.ts j } := by
  have heb : eb < w'.heap.size := (Array.getElem?_eq_some_iff.1 hb).1
  have hX := fun x (hx : X x) (hn : x ≠ mb) => ho x (h.xl x hx) hn
  have hR := fun x (hx : R x) => ho x (h.rl x hx) (fun e => h.sep mb h.xm (e ▸ hx))
  have old : ∀ j f, (if j = id then some (freshE b) else D.ts j) = some f → (j = id ∧ f = freshE b) ∨ (j ≠ id ∧ D.ts j = some f) := fun j f hf => by
    by_cases q : j = id
    · rw [if_pos q] at hf; cases hf; exact .inl ⟨q, rfl⟩
    · rw [if_neg q] at hf; exact .inr ⟨q, hf⟩
  refine ⟨(hX p h.xp (kind_ne h.kp h.km (by decide))).trans h.blk, hM, own_same h.row (fun x hx => hX x (h.xw x hx) (kind_ne (h.kw hx) h.km (by decide))), fun j hj => ?_, fun j f hf => ?_, fun j f hf => ?_, fun j f hf => ?_, fun i j f f' hf hf' q => ?_, fun i j f f' x hf hf' q q' => ?_, .inl h.xp, .inl h.xm, fun x hx => .inl (h.xw x hx), fun x hx hr => ?_, fun x hx => ?_, fun x hx => ?_, ok⟩
  · rw [hF]
    by_cases q : j = id
    · simp [q] at hj
    · simp only [if_neg q] at hj ⊢
      exact h.emp j hj
  · rw [hF]
    rcases old j f hf with ⟨rfl, rfl⟩ | ⟨q, hf⟩
    · simp only [if_true]
      exact ⟨trivial, hb, .inr trivial⟩
    · simp only [if_neg q]
      obtain ⟨h1, h2, h3⟩ := h.en j f hf
      exact ⟨h1, (hX _ h3 (kind_ne (h.ke hf) h.km (by decide))).trans h2, .inl h3⟩
  · rcases old j f hf with ⟨rfl, rfl⟩ | ⟨q, hf⟩
    · simp only [if_true]
      exact ⟨World.ownsRow_nil _ _ _ _, (fun x hx => by cases hx)⟩
    · simp only [if_neg q]
      obtain ⟨h1, h2⟩ := h.tr j f hf
      exact ⟨own_same h1 (fun x hx => hX x (h2 x hx) (kind_ne (h.kt hf hx) h.km (by decide))), fun x hx => .inl (h2 x hx)⟩
  · rcases old j f hf with ⟨rfl, rfl⟩ | ⟨q, hf⟩
    · simp only [if_true]
      exact ⟨⟨hbv, fun x hx => .inr hx⟩, Rv.nil _, (fun x hx => by cases hx)⟩
    · simp only [if_neg q]
      obtain ⟨⟨h1, h2⟩, h3, h4⟩ := h.bd j f hf
      exact ⟨⟨rvSame h1 (fun g _ hg => hR g (h2 g hg)), fun x hx => .inl (h2 x hx)⟩, rvSame h3 (fun g _ hg => hR g (h4 g hg)), fun x hx => .inl (h4 x hx)⟩
  · rcases old i f hf with ⟨q0, rfl⟩ | ⟨q1, hf1⟩ <;> rcases old j f' hf' with ⟨q2, rfl⟩ | ⟨q2, hf2⟩
    · exact q0.trans q2.symm
    · simp only [if_pos q0, if_neg q2] at q
      have := h.xl _ (h.en j f' hf2).2.2
      omega
    · simp only [if_pos q2, if_neg q1] at q
      have := h.xl _ (h.en i f hf1).2.2
      omega
    · simp only [if_neg q1, if_neg q2] at q
      exact h.inj i j f f' hf1 hf2 q
  · rcases old i f hf with ⟨q1, rfl⟩ | ⟨q1, hf⟩
    · simp [q1, Value.ownBlock] at q
    · rcases old j f' hf' with ⟨q2, rfl⟩ | ⟨q2, hf'⟩
      · simp [q2, Value.ownBlock] at q'
      · simp only [if_neg q1] at q
        simp only [if_neg q2] at q'
        exact h.tsep i j f f' x hf hf' q q'
  · rcases hx with hx | rfl <;> rcases hr with hr | hr
    · exact h.sep x hx hr
    · have := h.xl x hx; have := (hbn x hr).1; omega
    · have := h.rl x hr; omega
    · exact (hbn x hr).2.2 rfl
  · rcases hx with hx | rfl
    · exact Nat.lt_of_lt_of_le (h.xl x hx) hs
    · exact heb
  · rcases hx with hx | hx
    · exact Nat.lt_of_lt_of_le (h.rl x hx) hs
    · exact (hbn x hx).2.1
end
end Go.Proofs.Ytfdacckkdjpjhaa
