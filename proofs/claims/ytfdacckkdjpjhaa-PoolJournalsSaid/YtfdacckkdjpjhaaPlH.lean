/- Several texts in one: PlF PlG PlH. -/
import Derived.Test.YtfdacckkdjpjhaaPlE
import Derived.Test.YtfdacckkdjpjhaaClnB
import Derived.Test.YtfdacckkdjpjhaaHeld
/- Package pool: Add. -/
namespace Go.Proofs.Ytfdacckkdjpjhaa
open Go.RowKit

def insI (x : Int) : List Int → List Int
  | [] => [x]
  | y :: l => if x < y then x :: y :: l else y :: insI x l
theorem insI_mem (x y : Int) : ∀ l, y ∈ insI x l ↔ y = x ∨ y ∈ l
  | [] => by simp [insI]
  | z :: l => by
    rw [insI]
    split
    · simp
    · rw [List.mem_cons, insI_mem x y l, List.mem_cons]
      constructor
      · rintro (h | h | h) <;> simp [h]
      · rintro (h | h | h) <;> simp [h]
theorem insI_len (x : Int) : ∀ l, (insI x l).length = l.length + 1
  | [] => rfl
  | z :: l => by
    rw [insI]
    split
    · rfl
    · rw [List.length_cons, insI_len x l, List.length_cons]
theorem insI_ord (x : Int) : ∀ l, l.Pairwise (· < ·) → x ∉ l → (insI x l).Pairwise (· < ·)
  | [], _, _ => by simp [insI]
  | z :: l, h, hx => by
    rw [List.pairwise_cons] at h
    rw [insI]
    split
    · rename_i hlt
      refine List.pairwise_cons.2 ⟨fun y hy => ?_, List.pairwise_cons.2 h⟩
      rcases List.mem_cons.1 hy with rfl | hy
      · exact hlt
      · have := h.1 y hy; omega
    · rename_i hlt
      have hne : x ≠ z := fun e => hx (by simp [e])
      refine List.pairwise_cons.2 ⟨fun y hy => ?_, insI_ord x l h.2 (fun h => hx (List.mem_cons_of_mem _ h))⟩
      rcases (insI_mem x y l).1 hy with rfl | hy
      · omega
      · exact h.1 y hy
def freshE (b : List UInt8) : En := ⟨b, [], false, false, ⟨0, 0, 0, []⟩⟩
def Pl.add (D : Pl) (id : Int) (b : List UInt8) : Int × Pl :=
  if id < 0 then (1, D) else if 65536 < b.length ∨ 1024 ≤ D.ids.length then (4, D) else match D.ts id with
  | some _ => (8, D)
  | none => (0, { D with ids := insI id D.ids, ts := fun j => if j = id then some (freshE b) else D.ts j })
theorem ok_add {D : Pl} (h : POk D) {id : Int} {b : List UInt8} (h0 : 0 ≤ id ∧ id ≤ 9223372036854775807) (hb : b.length ≤ 65536) (hn : D.ids.length < 1024) (hk : D.ts id = none) : POk { D with ids := insI id D.ids, ts := fun j => if j = id then some (freshE b) else D.ts j } := by
  have hni : id ∉ D.ids := fun hm => by
    obtain ⟨e, he⟩ := (h.mem id).1 hm
    rw [hk] at he
    cases he
  have old : ∀ j f, (if j = id then some (freshE b) else D.ts j) = some f → f = freshE b ∨ D.ts j = some f := fun j f hf => by
    split at hf
    · cases hf; exact .inl rfl
    · exact .inr hf
  refine ⟨insI_ord _ _ h.ord hni, fun j => ?_, fun j hj => ?_, by show (insI id D.ids).length ≤ 1024; rw [insI_len]; omega, h.tmo, h.tck, h.wsl, fun j f hf => ?_, fun j f hf t ht => ?_, fun j u hu hh => ?_⟩
  · show j ∈ insI id D.ids ↔ ∃ f, (if j = id then some (freshE b) else D.ts j) = some f
    rw [insI_mem, h.mem j]
    by_cases q : j = id
    · simp [q]
    · simp [q]
  · rcases (insI_mem _ _ _).1 hj with rfl | hj
    · exact h0
    · exact h.idr j hj
  · rcases old j f hf with rfl | hf
    · exact ⟨hb, Nat.zero_le _⟩
    · exact h.bod j f hf
  · rcases old j f hf with rfl | hf
    · cases ht
    · exact h.tri j f hf t ht
  · obtain ⟨f, hf, hn⟩ := h.has j u hu hh
    have q : u.task ≠ id := fun e => by rw [e, hk] at hf; cases hf
    exact ⟨f, by show (if u.task = id then some (freshE b) else D.ts u.task) = _; rw [if_neg q]; exact hf, hn⟩
section
variable {w w' : World} {p mb : Nat} {wv : Value} {F : Int → Option Value} {ks : List Int} {B : Int → Nat} {TV BV AV : Int → Value} {X R X' Z : Nat → Prop} {D : Pl}
/-- The map has as many keys as there are tasks. -/
theorem PX.count (h : PX w p mb wv F ks B TV BV AV X R D) : ks.Perm D.ids := by
  refine (List.perm_ext_iff_of_nodup h.map.nodup (h.ok.ord.imp (fun h => Int.ne_of_lt h))).2 (fun k => ?_)
  rw [h.map.mem k, h.ok.mem k]
  constructor
  · rintro ⟨v, hv⟩
    cases hk : D.ts k with
    | none => rw [h.emp k hk] at hv; cases hv
    | some e => exact ⟨e, rfl⟩
  · rintro ⟨e, he⟩
    exact ⟨_, (h.en k e he).1⟩
theorem PX.find (h : PX w p mb wv F ks B TV BV AV X R D) (k : Int) : (F k).isSome = (D.ts k).isSome := by
  cases hk : D.ts k with
  | none => rw [h.emp k hk]; rfl
  | some e => rw [(h.en k e hk).1]; rfl
/-- A new entry. -/
theorem PX.insert {id : Int} {b : List UInt8} {F' : Int → Option Value} {ks' : List Int} {eb : Nat} {bv : Value} (h : PX w p mb wv F ks B TV BV AV X R D) (hk : D.ts id = none) (ok : POk { D with ids := insI id D.ids, ts := fun j => if j = id then some (freshE b) else D.ts j })
    (hF : F' = fun x => if x = id then some (.pointer (some ⟨eb, 0, none⟩)) else F x) (hM : MapF w' mb F' ks') (hb : w'.heap[eb]? = some (enO (freshE b) bv (.slice none 0 0) (.slice none 0 0))) (hge : w.heap.size ≤ eb) (hs : w.heap.size ≤ w'.heap.size) (ho : ∀ x, x < w.heap.size → x ≠ mb → w'.heap[x]? = w.heap[x]?)
    (hbv : Rv w' bv b.length (b.map vB)) (hbn : ∀ g, bv.ownBlock = some g → w.heap.size ≤ g ∧ g < w'.heap.size ∧ g ≠ eb) :
    PX w' p mb wv F' ks' (fun j => if j = id then eb else B j) (fun j => if j = id then .slice none 0 0 else TV j) (fun j => if j = id then bv else BV j) (fun j => if j = id then .slice none 0 0 else AV j) (fun x => X x ∨ x = eb) (fun x => R x ∨ bv.ownBlock = some x)
      { D with ids := insI id D.ids, ts := fun j => if j = id then some (freshE b) else D.ts j } := by
  have heb : eb < w'.heap.size := (Array.getElem?_eq_some_iff.1 hb).1
  have hX := fun x (hx : X x) (hn : x ≠ mb) => ho x (h.xl x hx) hn
  have hR := fun x (hx : R x) => ho x (h.rl x hx) (fun e => h.sep mb h.xm (e ▸ hx))
  have old : ∀ j f, (if j = id then some (freshE b) else D.ts j) = some f → (j = id ∧ f = freshE b) ∨ (j ≠ id ∧ D.ts j = some f) := fun j f hf => by
    by_cases q : j = id
    · rw [if_pos q] at hf; cases hf; exact .inl ⟨q, rfl⟩
    · rw [if_neg q] at hf; exact .inr ⟨q, hf⟩
  refine ⟨(hX p h.xp (kind_ne h.kp h.km (by decide))).trans h.blk, hM, own_same h.row (fun x hx => hX x (h.xw x hx) (kind_ne (h.kw hx) h.km (by decide))), fun j hj => ?_, fun j f hf => ?_, fun j f hf => ?_, fun j f hf => ?_, fun i j f f' hf hf' q => ?_, fun i j f f' x hf hf' q q' => ?_, .inl h.xp, .inl h.xm, fun x hx => .inl (h.xw x hx), fun x hx hr => ?_, fun x hx => ?_, fun x hx => ?_, ok⟩
  · rw [hF]
    by_cases q : j = id
    · simp [q] at hj
    · simp only [if_neg q] at hj ⊢
      exact h.emp j hj
  · rw [hF]
    rcases old j f hf with ⟨rfl, rfl⟩ | ⟨q, hf⟩
    · simp only [if_true]
      exact ⟨trivial, hb, .inr trivial⟩
    · simp only [if_neg q]
      obtain ⟨h1, h2, h3⟩ := h.en j f hf
      exact ⟨h1, (hX _ h3 (kind_ne (h.ke hf) h.km (by decide))).trans h2, .inl h3⟩
  · rcases old j f hf with ⟨rfl, rfl⟩ | ⟨q, hf⟩
    · simp only [if_true]
      exact ⟨World.ownsRow_nil _ _ _ _, (fun x hx => by cases hx)⟩
    · simp only [if_neg q]
      obtain ⟨h1, h2⟩ := h.tr j f hf
      exact ⟨own_same h1 (fun x hx => hX x (h2 x hx) (kind_ne (h.kt hf hx) h.km (by decide))), fun x hx => .inl (h2 x hx)⟩
  · rcases old j f hf with ⟨rfl, rfl⟩ | ⟨q, hf⟩
    · simp only [if_true]
      exact ⟨⟨hbv, fun x hx => .inr hx⟩, Rv.nil _, (fun x hx => by cases hx)⟩
    · simp only [if_neg q]
      obtain ⟨⟨h1, h2⟩, h3, h4⟩ := h.bd j f hf
      exact ⟨⟨rvSame h1 (fun g _ hg => hR g (h2 g hg)), fun x hx => .inl (h2 x hx)⟩, rvSame h3 (fun g _ hg => hR g (h4 g hg)), fun x hx => .inl (h4 x hx)⟩
  · rcases old i f hf with ⟨q0, rfl⟩ | ⟨q1, hf1⟩ <;> rcases old j f' hf' with ⟨q2, rfl⟩ | ⟨q2, hf2⟩
    · exact q0.trans q2.symm
    · simp only [if_pos q0, if_neg q2] at q
      have := h.xl _ (h.en j f' hf2).2.2
      omega
    · simp only [if_pos q2, if_neg q1] at q
      have := h.xl _ (h.en i f hf1).2.2
      omega
    · simp only [if_neg q1, if_neg q2] at q
      exact h.inj i j f f' hf1 hf2 q
  · rcases old i f hf with ⟨q1, rfl⟩ | ⟨q1, hf⟩
    · simp [q1, Value.ownBlock] at q
    · rcases old j f' hf' with ⟨q2, rfl⟩ | ⟨q2, hf'⟩
      · simp [q2, Value.ownBlock] at q'
      · simp only [if_neg q1] at q
        simp only [if_neg q2] at q'
        exact h.tsep i j f f' x hf hf' q q'
  · rcases hx with hx | rfl <;> rcases hr with hr | hr
    · exact h.sep x hx hr
    · have := h.xl x hx; have := (hbn x hr).1; omega
    · have := h.rl x hr; omega
    · exact (hbn x hr).2.2 rfl
  · rcases hx with hx | rfl
    · exact Nat.lt_of_lt_of_le (h.xl x hx) hs
    · exact heb
  · rcases hx with hx | hx
    · exact Nat.lt_of_lt_of_le (h.rl x hx) hs
    · exact (hbn x hx).2.1
end
end Go.Proofs.Ytfdacckkdjpjhaa

/- Package pool: Add. -/
namespace Go.Proofs.Ytfdacckkdjpjhaa
open Go.RowKit

/-- 'm[k] = v' as one operation. -/
theorem opUpd {P : Program} {w : World} {o : Oper} {a : Act} {K : Act → World → Prop} {Q : Exit → Act → World → Prop} {t Kt e : TypeId} {b : Nat} {F : Int → Option Value} {ks : List Int} (m x y : Operand) {k : Int} {v : Value} (hop : o.op = .mapUpdate t m x y) (ht : P.underlying t = some (.map Kt e)) (hK : P.underlying Kt = some (.int .i64)) (hm : a.eval m = .map (some b)) (hx : a.eval x = .int .i64 k) (hy : a.eval y = v) (h : MapF w b F ks)
    (hc : ∀ w', MapF w' b (fun x => if x = k then some v else F x) (if k ∈ ks then ks else ks ++ [k]) → w.grownBy w' (some b) → w'.heap.size = w.heap.size → K (a.put o.dst undef) w') : Oper.wp P o a w K Q := by
  obtain ⟨w', hrun, r1, r2, r3⟩ := h.update (P := P) ht hK k v
  unfold Oper.wp execOp
  simp only [hop, Sem.run_bind, Sem.run_pure, Result.andThen_ok, hm, hx, hy, hrun]
  exact hc w' r1 r2 r3
section
variable {p : Nat} {X R : Nat → Prop} {D : Pl}
set_option maxRecDepth 10000 in
set_option maxHeartbeats 1000000 in
theorem add_any (id : Int) (bv : Value) (b : List UInt8) (w : World) (h : PAt w p X R D) (hid : id ≤ 9223372036854775807) (hb : Rv w bv b.length (b.map vB)) (hbl : b.length ≤ 1000000000) :
    Calls Try.prog 13 #[.pointer (some ⟨p, 0, none⟩), .agg #[.int .i64 id, bv]] w fun e w' => e = .returned (.int .i64 (D.add id b).1) ∧ ∃ X' R', PAt w' p X' R' (D.add id b).2 ∧ DStep X X' w w' ∧ (∀ x, R' x → R x ∨ w.heap.size ≤ x) := by
  obtain ⟨mb, wv, F, ks, B, TV, BV, AV, h⟩ := h
  obtain ⟨ao, cap, rfl, hcap, _⟩ := hb.opened
  obtain ⟨O, hO⟩ : ∃ O, D.add id b = O := ⟨_, rfl⟩
  rw [hO]
  unfold Pl.add at hO
  have HO := Bx.mk hO
  clear hO
  have hsame : (0, D) = O ∨ True := .inr trivial
  go_enter Try.func13, Try.ntmps13
  go_upto_region 1 with fail
  have B1 := (Below.refl w.heap.size w).alloc (Nat.le_refl _) (.cells #[.int .i64 id, .slice ao b.length cap] 37)
  have t0 : (w.alloc (.cells #[.int .i64 id, .slice ao b.length cap] 37)).cell? ⟨w.heap.size, 0, none⟩ = some (.int .i64 id) := by simp [go_sem]
  have t1 : (w.alloc (.cells #[.int .i64 id, .slice ao b.length cap] 37)).cell? ⟨w.heap.size, 1, none⟩ = some (.slice ao b.length cap) := by simp [go_sem]
  have hs1 : (w.alloc (.cells #[.int .i64 id, .slice ao b.length cap] 37)).heap.size = w.heap.size + 1 := World.size_alloc _ _
  obtain ⟨w1, hw1⟩ : ∃ W, w.alloc (.cells #[.int .i64 id, .slice ao b.length cap] 37) = W := ⟨_, rfl⟩
  rw [hw1] at B1 t0 t1 hs1 ⊢
  have H1 := h.later B1
  have hmb0 := h.xl mb h.xm
  have S1 := DStep.ofBelow X B1
  have c3 := H1.c3
  have hlen := H1.map.len (P := Try.prog) (K := 3) (e := 99) Try.underlyingPM 3
  have hlk := H1.look id true
  have hcnt := H1.count.length_eq
  rw [hcnt] at hlen
  have hid1 := H1.ok.many
  have hfind := H1.find id
  have b1 := hb.below B1
  obtain ⟨m, hm⟩ : ∃ m, D.ids.length = m := ⟨_, rfl⟩
  rw [hm] at hlen hid1
  have HM := Bx.mk hm
  have HH := Bx.mk H1
  clear hw1 hb h hcnt hsame hm
  by_cases hneg : id < 0
  · have hO := HO.out
    rw [if_pos hneg] at hO
    clear HO hlk hlen
    go_wp2_with fail
    go_ret
    rw [← hO]
    exact ⟨rfl, X, R, ⟨_, _, _, _, _, _, _, _, HH.out⟩, S1, fun _ h => .inl h⟩
  · have hO := HO.out
    rw [if_neg hneg] at hO
    have HO1 := Bx.mk hO
    clear hO HO
    by_cases hl : 65536 < b.length
    · have hO := HO1.out
      rw [if_pos (.inl hl)] at hO
      have hlI : (65536 : Int) < (b.length : Int) := by omega
      clear HO1 hlk hlen
      go_wp2_with fail
      go_ret
      rw [← hO]
      exact ⟨rfl, X, R, ⟨_, _, _, _, _, _, _, _, HH.out⟩, S1, fun _ h => .inl h⟩
    · have hlI : ¬ (65536 : Int) < (b.length : Int) := by omega
      by_cases hm : 1024 ≤ m
      · have hO := HO1.out
        rw [if_pos (.inr (by rw [HM.out]; exact hm))] at hO
        have hmI : (1024 : Int) ≤ (m : Int) := by omega
        clear HO1 hlk
        go_wp2_with fail
        go_ret
        rw [← hO]
        exact ⟨rfl, X, R, ⟨_, _, _, _, _, _, _, _, HH.out⟩, S1, fun _ h => .inl h⟩
      · have hmI : ¬ (1024 : Int) ≤ (m : Int) := by omega
        have hO := HO1.out
        rw [if_neg (fun h => h.elim hl (fun h => by rw [HM.out] at h; exact hm h))] at hO
        have lkd := fun W hW => H1.look id true W hW
        have LKD := Bx.mk lkd
        have B1d := (Below.refl w1.heap.size w1).drew
        cases hts : D.ts id with
        | some e =>
          rw [hts] at hO hfind
          have lk := LKD.out w1.drew rfl
          rw [hfind] at lk
          obtain ⟨fv, hfv⟩ : ∃ v, (F id).getD (.pointer none) = v := ⟨_, rfl⟩
          rw [hfv] at lk
          change (Instr.lookup _ _ _ true).run _ _ = .ok (.tuple #[fv, .bool true]) _ at lk
          clear HO1 hlk lkd LKD hfv
          have c3d : w1.drew.cell? ⟨p, 3, none⟩ = some (.map (some mb)) := c3
          have t0d : w1.drew.cell? ⟨w.heap.size, 0, none⟩ = some (.int .i64 id) := t0
          have s0 := And.intro c3d (And.intro t0d lk)
          go_upto_region 5 with fail
          refine wp_region_held_drew (S := fun W => W.cell? ⟨p, 3, none⟩ = some (.map (some mb)) ∧ W.cell? ⟨w.heap.size, 0, none⟩ = some (.int .i64 id) ∧ (Instr.lookup 96 (.map (some mb)) (.int .i64 id) true).run Try.prog W = .ok (.tuple #[fv, .bool true]) W) (by kernel_rfl) s0 (fun _ => ?_)
          refine wpAnyH_do 0 23 rfl rfl (by kernel_rfl) (by kernel_rfl) (by kernel_rfl) (fun _ _ _ _ _ h => h) (by kernel_rfl) (fun W hS => by (obtain ⟨s1, s2, s3⟩ := hS); go_simp; try with_reducible rfl) s0 ?_
          simp only [List.setIfInBounds_toArray, List.set_cons_succ, List.set_cons_zero]
          refine wpAnyH_do 1 24 rfl rfl (by kernel_rfl) (by kernel_rfl) (by kernel_rfl) (fun _ _ _ _ _ h => h) (by kernel_rfl) (fun W hS => by (obtain ⟨s1, s2, s3⟩ := hS); go_simp; try with_reducible rfl) s0 ?_
          simp only [List.setIfInBounds_toArray, List.set_cons_succ, List.set_cons_zero]
          refine wpAnyH_do 2 25 rfl rfl (by kernel_rfl) (by kernel_rfl) (by kernel_rfl) (fun _ _ _ _ _ h => h) (by kernel_rfl) (fun W hS => by (obtain ⟨s1, s2, s3⟩ := hS); go_simp; try with_reducible rfl) s0 ?_
          simp only [List.setIfInBounds_toArray, List.set_cons_succ, List.set_cons_zero]
          refine wpAnyH_do 3 26 rfl rfl (by kernel_rfl) (by kernel_rfl) (by kernel_rfl) (fun _ _ _ _ _ h => h) (by kernel_rfl) (fun W hS => by (obtain ⟨s1, s2, s3⟩ := hS); go_simp; try with_reducible rfl) s0 ?_
          simp only [List.setIfInBounds_toArray, List.set_cons_succ, List.set_cons_zero]
          refine wpAnyH_do 4 27 rfl rfl (by kernel_rfl) (by kernel_rfl) (by kernel_rfl) (fun _ _ _ _ _ h => h) (by kernel_rfl) (fun W hS => by (obtain ⟨s1, s2, s3⟩ := hS); go_simp; try with_reducible rfl) s0 ?_
          simp only [List.setIfInBounds_toArray, List.set_cons_succ, List.set_cons_zero]
          refine wpAnyH_do 5 28 rfl rfl (by kernel_rfl) (by kernel_rfl) (by kernel_rfl) (fun _ _ _ _ _ h => h) (by kernel_rfl) (fun W hS => by (obtain ⟨s1, s2, s3⟩ := hS); go_simp; try with_reducible rfl) s0 ?_
          simp only [List.setIfInBounds_toArray, List.set_cons_succ, List.set_cons_zero]
          refine wpAnyH_do 6 29 rfl rfl (by kernel_rfl) (by kernel_rfl) (by kernel_rfl) (fun _ _ _ _ _ h => h) (by kernel_rfl) (fun W hS => by (obtain ⟨s1, s2, s3⟩ := hS); go_simp; try with_reducible rfl) s0 ?_
          simp only [List.setIfInBounds_toArray, List.set_cons_succ, List.set_cons_zero]
          refine wpAnyH_do 7 22 rfl rfl (by kernel_rfl) (by kernel_rfl) (by kernel_rfl) (fun _ _ _ _ _ h => h) (by kernel_rfl) (fun W hS => by (obtain ⟨s1, s2, s3⟩ := hS); go_simp; try with_reducible rfl) s0 ?_
          simp only [List.setIfInBounds_toArray, List.set_cons_succ, List.set_cons_zero]
          refine wpAnyH_do 8 30 rfl rfl (by kernel_rfl) (by kernel_rfl) (by kernel_rfl) (fun _ _ _ _ _ h => h) (by kernel_rfl) (fun W hS => by (obtain ⟨s1, s2, s3⟩ := hS); go_simp; try with_reducible rfl) s0 ?_
          simp only [List.setIfInBounds_toArray, List.set_cons_succ, List.set_cons_zero]
          refine wpAnyH_do 9 31 rfl rfl (by kernel_rfl) (by kernel_rfl) (by kernel_rfl) (fun _ _ _ _ _ h => h) (by kernel_rfl) (fun W hS => by (obtain ⟨s1, s2, s3⟩ := hS); go_simp; try with_reducible rfl) s0 ?_
          simp only [List.setIfInBounds_toArray, List.set_cons_succ, List.set_cons_zero]
          refine wpAnyH_do 10 5 rfl rfl (by kernel_rfl) (by kernel_rfl) (by kernel_rfl) (fun _ _ _ _ _ h => h) (by kernel_rfl) (fun W hS => by (obtain ⟨s1, s2, s3⟩ := hS); go_simp; try with_reducible rfl) s0 ?_
          simp only [List.setIfInBounds_toArray, List.set_cons_succ, List.set_cons_zero]
          refine wpAnyH_do 11 6 rfl rfl (by kernel_rfl) (by kernel_rfl) (by kernel_rfl) (fun _ _ _ _ _ h => h) (by kernel_rfl) (fun W hS => by (obtain ⟨s1, s2, s3⟩ := hS); go_simp; try with_reducible rfl) s0 ?_
          simp only [List.setIfInBounds_toArray, List.set_cons_succ, List.set_cons_zero]
          refine wpAnyH_done (by kernel_rfl) ?_ _
          have HH2 := Bx.mk (HH.out.later B1d)
          have S2 := S1.trans (DStep.ofBelow X B1d)
          generalize w1.drew = w2 at *
          go_wp2_with fail
          go_ret
          rw [← hO]
          exact ⟨rfl, X, R, ⟨_, _, _, _, _, _, _, _, HH2.out⟩, S2, fun _ h => .inl h⟩
        | none =>
          rw [hts] at hO hfind
          have lk := LKD.out w1.drew rfl
          rw [hfind] at lk
          obtain ⟨fv, hfv⟩ : ∃ v, (F id).getD (.pointer none) = v := ⟨_, rfl⟩
          rw [hfv] at lk
          change (Instr.lookup _ _ _ true).run _ _ = .ok (.tuple #[fv, .bool false]) _ at lk
          clear HO1 hlk lkd LKD hfv
          have c3d : w1.drew.cell? ⟨p, 3, none⟩ = some (.map (some mb)) := c3
          have t0d : w1.drew.cell? ⟨w.heap.size, 0, none⟩ = some (.int .i64 id) := t0
          have t1d : w1.drew.cell? ⟨w.heap.size, 1, none⟩ = some (.slice ao b.length cap) := t1
          have s0 := And.intro c3d (And.intro t0d lk)
          go_upto_region 5 with fail
          refine wp_region_held_drew (S := fun W => W.cell? ⟨p, 3, none⟩ = some (.map (some mb)) ∧ W.cell? ⟨w.heap.size, 0, none⟩ = some (.int .i64 id) ∧ (Instr.lookup 96 (.map (some mb)) (.int .i64 id) true).run Try.prog W = .ok (.tuple #[fv, .bool false]) W) (by kernel_rfl) s0 (fun _ => ?_)
          refine wpAnyH_do 0 23 rfl rfl (by kernel_rfl) (by kernel_rfl) (by kernel_rfl) (fun _ _ _ _ _ h => h) (by kernel_rfl) (fun W hS => by (obtain ⟨s1, s2, s3⟩ := hS); go_simp; try with_reducible rfl) s0 ?_
          simp only [List.setIfInBounds_toArray, List.set_cons_succ, List.set_cons_zero]
          refine wpAnyH_do 1 24 rfl rfl (by kernel_rfl) (by kernel_rfl) (by kernel_rfl) (fun _ _ _ _ _ h => h) (by kernel_rfl) (fun W hS => by (obtain ⟨s1, s2, s3⟩ := hS); go_simp; try with_reducible rfl) s0 ?_
          simp only [List.setIfInBounds_toArray, List.set_cons_succ, List.set_cons_zero]
          refine wpAnyH_do 2 25 rfl rfl (by kernel_rfl) (by kernel_rfl) (by kernel_rfl) (fun _ _ _ _ _ h => h) (by kernel_rfl) (fun W hS => by (obtain ⟨s1, s2, s3⟩ := hS); go_simp; try with_reducible rfl) s0 ?_
          simp only [List.setIfInBounds_toArray, List.set_cons_succ, List.set_cons_zero]
          refine wpAnyH_do 3 26 rfl rfl (by kernel_rfl) (by kernel_rfl) (by kernel_rfl) (fun _ _ _ _ _ h => h) (by kernel_rfl) (fun W hS => by (obtain ⟨s1, s2, s3⟩ := hS); go_simp; try with_reducible rfl) s0 ?_
          simp only [List.setIfInBounds_toArray, List.set_cons_succ, List.set_cons_zero]
          refine wpAnyH_do 4 27 rfl rfl (by kernel_rfl) (by kernel_rfl) (by kernel_rfl) (fun _ _ _ _ _ h => h) (by kernel_rfl) (fun W hS => by (obtain ⟨s1, s2, s3⟩ := hS); go_simp; try with_reducible rfl) s0 ?_
          simp only [List.setIfInBounds_toArray, List.set_cons_succ, List.set_cons_zero]
          refine wpAnyH_do 5 28 rfl rfl (by kernel_rfl) (by kernel_rfl) (by kernel_rfl) (fun _ _ _ _ _ h => h) (by kernel_rfl) (fun W hS => by (obtain ⟨s1, s2, s3⟩ := hS); go_simp; try with_reducible rfl) s0 ?_
          simp only [List.setIfInBounds_toArray, List.set_cons_succ, List.set_cons_zero]
          refine wpAnyH_do 6 29 rfl rfl (by kernel_rfl) (by kernel_rfl) (by kernel_rfl) (fun _ _ _ _ _ h => h) (by kernel_rfl) (fun W hS => by (obtain ⟨s1, s2, s3⟩ := hS); go_simp; try with_reducible rfl) s0 ?_
          simp only [List.setIfInBounds_toArray, List.set_cons_succ, List.set_cons_zero]
          refine wpAnyH_do 7 22 rfl rfl (by kernel_rfl) (by kernel_rfl) (by kernel_rfl) (fun _ _ _ _ _ h => h) (by kernel_rfl) (fun W hS => by (obtain ⟨s1, s2, s3⟩ := hS); go_simp; try with_reducible rfl) s0 ?_
          simp only [List.setIfInBounds_toArray, List.set_cons_succ, List.set_cons_zero]
          refine wpAnyH_do 8 30 rfl rfl (by kernel_rfl) (by kernel_rfl) (by kernel_rfl) (fun _ _ _ _ _ h => h) (by kernel_rfl) (fun W hS => by (obtain ⟨s1, s2, s3⟩ := hS); go_simp; try with_reducible rfl) s0 ?_
          simp only [List.setIfInBounds_toArray, List.set_cons_succ, List.set_cons_zero]
          refine wpAnyH_do 9 31 rfl rfl (by kernel_rfl) (by kernel_rfl) (by kernel_rfl) (fun _ _ _ _ _ h => h) (by kernel_rfl) (fun W hS => by (obtain ⟨s1, s2, s3⟩ := hS); go_simp; try with_reducible rfl) s0 ?_
          simp only [List.setIfInBounds_toArray, List.set_cons_succ, List.set_cons_zero]
          refine wpAnyH_do 10 5 rfl rfl (by kernel_rfl) (by kernel_rfl) (by kernel_rfl) (fun _ _ _ _ _ h => h) (by kernel_rfl) (fun W hS => by (obtain ⟨s1, s2, s3⟩ := hS); go_simp; try with_reducible rfl) s0 ?_
          simp only [List.setIfInBounds_toArray, List.set_cons_succ, List.set_cons_zero]
          refine wpAnyH_do 11 6 rfl rfl (by kernel_rfl) (by kernel_rfl) (by kernel_rfl) (fun _ _ _ _ _ h => h) (by kernel_rfl) (fun W hS => by (obtain ⟨s1, s2, s3⟩ := hS); go_simp; try with_reducible rfl) s0 ?_
          simp only [List.setIfInBounds_toArray, List.set_cons_succ, List.set_cons_zero]
          refine wpAnyH_done (by kernel_rfl) ?_ _
          have H2 := HH.out.later B1d
          have S2 := S1.trans (DStep.ofBelow X B1d)
          have b2 := b1.below B1d
          have hs2 : w1.drew.heap.size = w.heap.size + 1 := hs1
          generalize w1.drew = w2 at *
          have HH2 := Bx.mk H2
          clear c3 t0 t1 B1 H1 S1 b1 HH hlen B1d lk
          have B2d := (Below.refl w2.heap.size w2).drew
          have H2d := H2.later B2d
          have c3d : w2.drew.cell? ⟨p, 3, none⟩ = some (.map (some mb)) := c3d
          have t0d : w2.drew.cell? ⟨w.heap.size, 0, none⟩ = some (.int .i64 id) := t0d
          have t1d : w2.drew.cell? ⟨w.heap.size, 1, none⟩ = some (.slice ao b.length cap) := t1d
          have s0 := And.intro c3d (And.intro t0d t1d)
          go_upto_region 8 with fail
          refine wp_region_held_drew (S := fun W => W.cell? ⟨p, 3, none⟩ = some (.map (some mb)) ∧ W.cell? ⟨w.heap.size, 0, none⟩ = some (.int .i64 id) ∧ W.cell? ⟨w.heap.size, 1, none⟩ = some (.slice ao b.length cap)) (by kernel_rfl) s0 (fun _ => ?_)
          refine wpAnyH_do 0 33 rfl rfl (by kernel_rfl) (by kernel_rfl) (by kernel_rfl) (fun _ _ _ _ _ h => h) (by kernel_rfl) (fun W hS => by (obtain ⟨s1, s2, s3⟩ := hS); go_simp; try with_reducible rfl) s0 ?_
          simp only [List.setIfInBounds_toArray, List.set_cons_succ, List.set_cons_zero]
          refine wpAnyH_do 1 34 rfl rfl (by kernel_rfl) (by kernel_rfl) (by kernel_rfl) (fun _ _ _ _ _ h => h) (by kernel_rfl) (fun W hS => by (obtain ⟨s1, s2, s3⟩ := hS); go_simp; try with_reducible rfl) s0 ?_
          simp only [List.setIfInBounds_toArray, List.set_cons_succ, List.set_cons_zero]
          refine wpAnyH_do 2 35 rfl rfl (by kernel_rfl) (by kernel_rfl) (by kernel_rfl) (fun _ _ _ _ _ h => h) (by kernel_rfl) (fun W hS => by (obtain ⟨s1, s2, s3⟩ := hS); go_simp; try with_reducible rfl) s0 ?_
          simp only [List.setIfInBounds_toArray, List.set_cons_succ, List.set_cons_zero]
          refine wpAnyH_do 3 36 rfl rfl (by kernel_rfl) (by kernel_rfl) (by kernel_rfl) (fun _ _ _ _ _ h => h) (by kernel_rfl) (fun W hS => by (obtain ⟨s1, s2, s3⟩ := hS); go_simp; try with_reducible rfl) s0 ?_
          simp only [List.setIfInBounds_toArray, List.set_cons_succ, List.set_cons_zero]
          refine wpAnyH_do 4 37 rfl rfl (by kernel_rfl) (by kernel_rfl) (by kernel_rfl) (fun _ _ _ _ _ h => h) (by kernel_rfl) (fun W hS => by (obtain ⟨s1, s2, s3⟩ := hS); go_simp; try with_reducible rfl) s0 ?_
          simp only [List.setIfInBounds_toArray, List.set_cons_succ, List.set_cons_zero]
          refine wpAnyH_do 5 38 rfl rfl (by kernel_rfl) (by kernel_rfl) (by kernel_rfl) (fun _ _ _ _ _ h => h) (by kernel_rfl) (fun W hS => by (obtain ⟨s1, s2, s3⟩ := hS); go_simp; try with_reducible rfl) s0 ?_
          simp only [List.setIfInBounds_toArray, List.set_cons_succ, List.set_cons_zero]
          refine wpAnyH_do 6 39 rfl rfl (by kernel_rfl) (by kernel_rfl) (by kernel_rfl) (fun _ _ _ _ _ h => h) (by kernel_rfl) (fun W hS => by (obtain ⟨s1, s2, s3⟩ := hS); go_simp; try with_reducible rfl) s0 ?_
          simp only [List.setIfInBounds_toArray, List.set_cons_succ, List.set_cons_zero]
          refine wpAnyH_do 7 40 rfl rfl (by kernel_rfl) (by kernel_rfl) (by kernel_rfl) (fun _ _ _ _ _ h => h) (by kernel_rfl) (fun W hS => by (obtain ⟨s1, s2, s3⟩ := hS); go_simp; try with_reducible rfl) s0 ?_
          simp only [List.setIfInBounds_toArray, List.set_cons_succ, List.set_cons_zero]
          refine wpAnyH_one 8 rfl (by kernel_rfl) (by kernel_rfl) (fun K hK => ?_)
          go_simp
          refine (cloneB_any (.slice ao b.length cap) b w2.drew (b2.below B2d) hbl).mono ?_
          rintro e w3 ⟨v3, rfl, M3⟩
          have h1mb : mb < w.heap.size := hmb0
          have B3 : Below w2.heap.size w2 w3 := B2d.trans (M3.2.mono (Nat.le_refl _))
          have O3 := M3.1
          rw [List.length_map] at O3
          obtain ⟨a3, c3v, rfl⟩ := own_isSlice O3
          have HRB := Bx.mk (show ∀ x, (Value.slice a3 b.length c3v).ownBlock = some x → w.heap.size ≤ x from fun x hx => by have h1 := (O3.lt x hx).1; have h2 : w2.drew.heap.size = w2.heap.size := rfl; omega)
          have c33 := (B3.cell (p := ⟨p, 3, none⟩) (World.block_lt_of_cell? _ _ c3d)).trans c3d
          have t03 := (B3.cell (p := ⟨w.heap.size, 0, none⟩) (World.block_lt_of_cell? _ _ t0d)).trans t0d
          have t13 := (B3.cell (p := ⟨w.heap.size, 1, none⟩) (World.block_lt_of_cell? _ _ t1d)).trans t1d
          have s3 := And.intro c33 (And.intro t03 t13)
          refine hK _ _ s3 ?_
          clear hK
          refine wpAnyH_do 9 42 rfl rfl (by kernel_rfl) (by kernel_rfl) (by kernel_rfl) (fun _ _ _ _ _ h => h) (by kernel_rfl) (fun W hS => by (obtain ⟨s1, s2, s3⟩ := hS); go_simp; try with_reducible rfl) s3 ?_
          simp only [List.setIfInBounds_toArray, List.set_cons_succ, List.set_cons_zero]
          refine wpAnyH_one 10 rfl (by kernel_rfl) (by kernel_rfl) (fun K hK => ?_)
          go_simp
          have hb4 := World.alloc_heap_new w3 (enO (freshE b) (.slice a3 b.length c3v) (.slice none 0 0) (.slice none 0 0))
          have B4 := (Below.refl w3.heap.size w3).alloc (Nat.le_refl _) (enO (freshE b) (.slice a3 b.length c3v) (.slice none 0 0) (.slice none 0 0))
          have hs4 : (w3.alloc (enO (freshE b) (.slice a3 b.length c3v) (.slice none 0 0) (.slice none 0 0))).heap.size = w3.heap.size + 1 := World.size_alloc _ _
          change (w3.alloc (.cells #[.slice a3 b.length c3v, .slice none 0 0, .bool false, .bool false, .int .i64 0, .int .i64 0, .int .i64 0, .slice none 0 0] 103)).heap[w3.heap.size]? = _ at hb4
          change Below _ _ (w3.alloc (.cells #[.slice a3 b.length c3v, .slice none 0 0, .bool false, .bool false, .int .i64 0, .int .i64 0, .int .i64 0, .slice none 0 0] 103)) at B4
          change (w3.alloc (.cells #[.slice a3 b.length c3v, .slice none 0 0, .bool false, .bool false, .int .i64 0, .int .i64 0, .int .i64 0, .slice none 0 0] 103)).heap.size = _ at hs4
          obtain ⟨w4, hw4⟩ : ∃ W, w3.alloc (.cells #[.slice a3 b.length c3v, .slice none 0 0, .bool false, .bool false, .int .i64 0, .int .i64 0, .int .i64 0, .slice none 0 0] 103) = W := ⟨_, rfl⟩
          rw [hw4] at hb4 B4 hs4 ⊢
          have B24 := bel B3 B4
          have hz3 := B3.size
          have c34 := (B4.cell (p := ⟨p, 3, none⟩) (World.block_lt_of_cell? _ _ c33)).trans c33
          have t04 := (B4.cell (p := ⟨w.heap.size, 0, none⟩) (World.block_lt_of_cell? _ _ t03)).trans t03
          have t14 := (B4.cell (p := ⟨w.heap.size, 1, none⟩) (World.block_lt_of_cell? _ _ t13)).trans t13
          have M4 := HH2.out.map.kept (w' := w4) (B24.block mb (HH2.out.xl mb HH2.out.xm))
          have hmbl := HH2.out.xl mb HH2.out.xm
          have hpm : p ≠ mb := kind_ne HH2.out.kp HH2.out.km (by decide)
          have hml : mb ≠ w.heap.size := by
            have := h1mb
            omega
          refine hK _ _ (And.intro c34 (And.intro t04 t14)) ?_
          clear hK
          refine wpAnyH_one 11 rfl (by kernel_rfl) (by kernel_rfl) (fun K hK => ?_)
          refine opUpd _ _ _ rfl Try.underlyingPM (by kernel_rfl) rfl rfl rfl M4 ?_
          intro w5 M5 g5 hs5
          have k5 : ∀ x, x < w4.heap.size → x ≠ mb → w5.heap[x]? = w4.heap[x]? := fun x hx hn => g5.block x hx (fun e => hn (by injection e))
          have cc : ∀ x j u, x ≠ mb → w4.cell? ⟨x, j, none⟩ = some u → w5.cell? ⟨x, j, none⟩ = some u := fun x j u hn hc => by
            have := k5 x (World.block_lt_of_cell? _ _ hc) hn
            unfold World.cell? at hc ⊢
            rw [this]
            exact hc
          refine hK _ _ (And.intro (cc _ _ _ hpm c34) (And.intro (cc _ _ _ (fun e => hml e.symm) t04) (cc _ _ _ (fun e => hml e.symm) t14))) ?_
          clear hK
          refine wpAnyH_done (by kernel_rfl) ?_ _
          have hlen65 : b.length ≤ 65536 := by omega
          have okD := ok_add HH2.out.ok (id := id) (b := b) ⟨by omega, hid⟩ hlen65 (by rw [HM.out]; omega) hts
          have H5 := HH2.out.insert (w' := w5) (id := id) (b := b) (eb := w3.heap.size) (bv := .slice a3 b.length c3v) hts okD rfl M5 ((k5 _ (by omega) (by omega)).trans hb4) (by omega) (by omega) (fun x hx hn => (k5 x (by omega) hn).trans (B24.block x hx))
            (by
              have r3 := Rv.of_own O3
              have r4 := r3.below B4
              exact rvSame r4 (fun g hg hv => k5 g hg (fun e => by have := (O3.lt g hv).1; have h2 : w2.drew.heap.size = w2.heap.size := rfl; omega)))
            (fun g hg => by have h1 := O3.lt g hg; have h2 : w2.drew.heap.size = w2.heap.size := rfl; omega)
          have S5 : DStep X (fun x => X x ∨ x = w3.heap.size) w2 w5 := ⟨g5.os.trans B24.os, g5.tape.trans B24.tape, g5.output.trans B24.output, by have := B24.size; omega, fun x hx hX => (k5 x (by have := B24.size; omega) (fun e => hX (by rw [e]; exact HH2.out.xm))).trans (B24.block x hx), fun x hx => hx.elim .inl (fun e => .inr (by omega))⟩
          clear M5 M4 g5 k5 cc c34 t04 t14 hb4 B4 hw4 O3
          go_wp2_with fail
          go_ret
          rw [← hO]
          exact ⟨rfl, _, _, ⟨_, _, _, _, _, _, _, _, H5⟩, S2.trans S5, fun x hx => hx.elim .inl (fun e => .inr (by have := HRB.out x e; omega))⟩
end
end Go.Proofs.Ytfdacckkdjpjhaa

/- Package pool: Answer. -/
namespace Go.Proofs.Ytfdacckkdjpjhaa
open Go.RowKit

/-- Whether a try is one of the task's, and the worker's. -/
def En.mine (e : En) (worker tr : Int) : Bool := decide (0 ≤ tr) && (match e.tries[tr.toNat]? with | none => false | some t => t.1 == worker)
def Pl.answer (D : Pl) (task worker tr : Int) (b : List UInt8) (t : Int) : Bool × Int × Pl :=
  if D.wrong worker t ≠ 0 then (false, D.wrong worker t, D) else match D.ts task with
  | none => (false, 7, D)
  | some e => if e.mine worker tr = false then (false, 17, D) else if 65536 < b.length then (false, 4, D) else
    if e.done = true then (false, 0, { D with tick := t }) else (true, 0, { D with tick := t, ts := fun j => if j = task then some { e with done := true, ans := ⟨task, worker, tr, b⟩ } else D.ts j })
/-- An answer's body is set. -/
theorem PX.reply {w w' : World} {p mb : Nat} {wv : Value} {F : Int → Option Value} {ks : List Int} {B : Int → Nat} {TV BV AV : Int → Value} {X R : Nat → Prop} {D : Pl} (h : PX w p mb wv F ks B TV BV AV X R D) {k : Int} {e e' : En} {av : Value} (hk : D.ts k = some e) (ht : e'.tries = e.tries) (hbd : e'.body = e.body) (hb : w'.heap[B k]? = some (enO e' (BV k) (TV k) av)) (hs : w.heap.size ≤ w'.heap.size) (ho : ∀ b, b < w.heap.size → b ≠ B k → w'.heap[b]? = w.heap[b]?)
    (ha : Rv w' av e'.ans.body.length (e'.ans.body.map vB)) (hn : ∀ g, av.ownBlock = some g → w.heap.size ≤ g ∧ g < w'.heap.size)
    (ok : POk { D with ts := fun j => if j = k then some e' else D.ts j }) : PX w' p mb wv F ks B TV BV (fun j => if j = k then av else AV j) X (fun x => R x ∨ av.ownBlock = some x) { D with ts := fun j => if j = k then some e' else D.ts j } := by
  have hX : X (B k) := (h.en k e hk).2.2
  have hR := fun b (hb : R b) => ho b (h.rl b hb) (fun q => h.sep _ hX (by rw [← q]; exact hb))
  have hXl := fun b (hb : X b) => ho b (h.xl b hb)
  have old : ∀ j f, (if j = k then some e' else D.ts j) = some f → ∃ f0, D.ts j = some f0 ∧ f.tries = f0.tries ∧ f.body = f0.body ∧ (j ≠ k → f = f0) ∧ (j = k → f = e') := fun j f hf => by
    by_cases q : j = k
    · rw [if_pos q] at hf
      cases hf
      subst q
      exact ⟨e, hk, ht, hbd, fun n => absurd rfl n, fun _ => rfl⟩
    · rw [if_neg q] at hf
      exact ⟨f, hf, rfl, rfl, fun _ => rfl, fun n => absurd n q⟩
  refine ⟨(hXl p h.xp (kind_ne h.kp (h.ke hk) (by decide))).trans h.blk, h.map.kept (hXl mb h.xm (kind_ne h.km (h.ke hk) (by decide))), own_same h.row (fun b hb => hXl b (h.xw b hb) (kind_ne (h.kw hb) (h.ke hk) (by decide))), fun j hj => ?_,
    fun j f hf => ?_, fun j f hf => ?_, fun j f hf => ?_, fun i j f f' hf hf' q => ?_, fun i j f f' b hf hf' q q' => ?_, h.xp, h.xm, h.xw, fun b hb hr => hr.elim (h.sep b hb) (fun q => by have := (hn b q).1; have := h.xl b hb; omega), fun b hb => Nat.lt_of_lt_of_le (h.xl b hb) hs, fun b hb => hb.elim (fun q => Nat.lt_of_lt_of_le (h.rl b q) hs) (fun q => (hn b q).2), ok⟩
  · by_cases q : j = k
    · simp [q] at hj
    · simp only [if_neg q] at hj
      exact h.emp j hj
  · obtain ⟨f0, h0, _, _, hn, he⟩ := old j f hf
    obtain ⟨h1, h2, h3⟩ := h.en j f0 h0
    refine ⟨h1, ?_, h3⟩
    by_cases q : j = k
    · rw [he q, q, if_pos rfl]
      exact hb
    · rw [hn q, if_neg q]
      exact (hXl _ h3 (fun q2 => q (h.inj j k f0 e h0 hk q2))).trans h2
  · obtain ⟨f0, h0, h1, _⟩ := old j f hf
    rw [h1]
    exact ⟨own_same (h.tr j f0 h0).1 (fun b hb => hXl b ((h.tr j f0 h0).2 b hb) (kind_ne (h.kt h0 hb) (h.ke hk) (by decide))), (h.tr j f0 h0).2⟩
  · obtain ⟨f0, h0, _, h2, hn, he⟩ := old j f hf
    refine ⟨⟨by rw [h2]; exact rvSame (h.bd j f0 h0).1.1 (fun g _ hg => hR g ((h.bd j f0 h0).1.2 g hg)), fun g hg => .inl ((h.bd j f0 h0).1.2 g hg)⟩, ?_⟩
    by_cases q : j = k
    · rw [he q, if_pos q]
      exact ⟨ha, fun g hg => .inr hg⟩
    · rw [hn q, if_neg q]
      exact ⟨rvSame (h.bd j f0 h0).2.1 (fun g _ hg => hR g ((h.bd j f0 h0).2.2 g hg)), fun g hg => .inl ((h.bd j f0 h0).2.2 g hg)⟩
  · obtain ⟨f0, h0, _⟩ := old i f hf
    obtain ⟨f1, h1, _⟩ := old j f' hf'
    exact h.inj i j f0 f1 h0 h1 q
  · obtain ⟨f0, h0, _⟩ := old i f hf
    obtain ⟨f1, h1, _⟩ := old j f' hf'
    exact h.tsep i j f0 f1 b h0 h1 q q'
section
variable {p : Nat} {X R : Nat → Prop} {D : Pl}
set_option maxRecDepth 10000 in
set_option maxHeartbeats 2000000 in
theorem answer_any (task worker tr : Int) (bv : Value) (b : List UInt8) (t : Int) (w : World) (h : PAt w p X R D) (htr : -9223372036854775808 ≤ tr ∧ tr ≤ 9223372036854775807) (hb : Rv w bv b.length (b.map vB)) (hbl : b.length ≤ 1000000000) (hsp : ∀ g, bv.ownBlock = some g → ¬ X g) :
    Calls Try.prog 16 #[.pointer (some ⟨p, 0, none⟩), .agg #[.int .i64 task, .int .i64 worker, .int .i64 tr, bv], .int .i64 t] w fun e w' => e = .returned (.tuple #[.bool (D.answer task worker tr b t).1, .int .i64 (D.answer task worker tr b t).2.1]) ∧
      ∃ R', PAt w' p X R' (D.answer task worker tr b t).2.2 ∧ DStep X X w w' ∧ (∀ x, R' x → R x ∨ w.heap.size ≤ x) := by
  obtain ⟨mb, wv, F, ks, B, TV, BV, AV, h⟩ := h
  obtain ⟨ao, cap, rfl, hcap, _⟩ := hb.opened
  obtain ⟨O, hO⟩ : ∃ O, D.answer task worker tr b t = O := ⟨_, rfl⟩
  rw [hO]
  unfold Pl.answer at hO
  have HO := Bx.mk hO
  clear hO
  go_enter Try.func16, Try.ntmps16
  go_upto_region 1 with fail
  have B1 := (Below.refl w.heap.size w).alloc (Nat.le_refl _) (.cells #[.int .i64 task, .int .i64 worker, .int .i64 tr, .slice ao b.length cap] 44)
  have t0 : (w.alloc (.cells #[.int .i64 task, .int .i64 worker, .int .i64 tr, .slice ao b.length cap] 44)).cell? ⟨w.heap.size, 0, none⟩ = some (.int .i64 task) := by simp [go_sem]
  have t1 : (w.alloc (.cells #[.int .i64 task, .int .i64 worker, .int .i64 tr, .slice ao b.length cap] 44)).cell? ⟨w.heap.size, 1, none⟩ = some (.int .i64 worker) := by simp [go_sem]
  have t2 : (w.alloc (.cells #[.int .i64 task, .int .i64 worker, .int .i64 tr, .slice ao b.length cap] 44)).cell? ⟨w.heap.size, 2, none⟩ = some (.int .i64 tr) := by simp [go_sem]
  have t3 : (w.alloc (.cells #[.int .i64 task, .int .i64 worker, .int .i64 tr, .slice ao b.length cap] 44)).cell? ⟨w.heap.size, 3, none⟩ = some (.slice ao b.length cap) := by simp [go_sem]
  have hs1 : (w.alloc (.cells #[.int .i64 task, .int .i64 worker, .int .i64 tr, .slice ao b.length cap] 44)).heap.size = w.heap.size + 1 := World.size_alloc _ _
  obtain ⟨w1, hw1⟩ : ∃ W, w.alloc (.cells #[.int .i64 task, .int .i64 worker, .int .i64 tr, .slice ao b.length cap] 44) = W := ⟨_, rfl⟩
  rw [hw1] at B1 t0 t1 t2 t3 hs1 ⊢
  have H1 := h.later B1
  have S1 := DStep.ofBelow X B1
  have hwr := wrong_any worker t w1 H1
  obtain ⟨r, hr⟩ : ∃ r, D.wrong worker t = r := ⟨_, rfl⟩
  rw [hr] at hwr
  have HWR := Bx.mk hwr
  have b1 := hb.below B1
  have HXS := Bx.mk h.xl
  have HSP := Bx.mk hsp
  have HH := Bx.mk H1
  have hO := HO.out
  rw [hr] at hO
  have HO1 := Bx.mk hO
  clear hw1 hb h hwr hO HO hsp
  by_cases hr0 : r = 0
  · subst hr0
    have hO := HO1.out
    rw [if_neg (by simp)] at hO
    have HO2 := Bx.mk hO
    clear hO HO1
    go_wp2_with fail
    refine HWR.out.mono ?_
    rintro e w2 ⟨rfl, rfl⟩
    have c3 := HH.out.c3
    have B1d := (Below.refl w2.heap.size w2).drew
    have hfind := HH.out.find task
    have lk := HH.out.look task true w2.drew rfl
    have c3d : w2.drew.cell? ⟨p, 3, none⟩ = some (.map (some mb)) := c3
    have t0d : w2.drew.cell? ⟨w.heap.size, 0, none⟩ = some (.int .i64 task) := t0
    cases hts : D.ts task with
    | none =>
      rw [hts] at hfind
      have hO := HO2.out
      rw [hts] at hO
      simp only at hO
      rw [hfind] at lk
      obtain ⟨fv, hfv⟩ : ∃ v, (F task).getD (.pointer none) = v := ⟨_, rfl⟩
      rw [hfv] at lk
      change (Instr.lookup _ _ _ true).run _ _ = .ok (.tuple #[fv, .bool false]) _ at lk
      have s0 := And.intro c3d (And.intro t0d lk)
      go_upto_region 4 with fail
      refine wp_region_held_drew (S := fun W => W.cell? ⟨p, 3, none⟩ = some (.map (some mb)) ∧ W.cell? ⟨w.heap.size, 0, none⟩ = some (.int .i64 task) ∧ (Instr.lookup 96 (.map (some mb)) (.int .i64 task) true).run Try.prog W = .ok (.tuple #[fv, .bool false]) W) (by kernel_rfl) s0 (fun _ => ?_)
      refine wpAnyH_do 0 20 rfl rfl (by kernel_rfl) (by kernel_rfl) (by kernel_rfl) (fun _ _ _ _ _ h => h) (by kernel_rfl) (fun W hS => by (obtain ⟨s1, s2, s3⟩ := hS); go_simp; try with_reducible rfl) s0 ?_
      simp only [List.setIfInBounds_toArray, List.set_cons_succ, List.set_cons_zero]
      refine wpAnyH_do 1 21 rfl rfl (by kernel_rfl) (by kernel_rfl) (by kernel_rfl) (fun _ _ _ _ _ h => h) (by kernel_rfl) (fun W hS => by (obtain ⟨s1, s2, s3⟩ := hS); go_simp; try with_reducible rfl) s0 ?_
      simp only [List.setIfInBounds_toArray, List.set_cons_succ, List.set_cons_zero]
      refine wpAnyH_do 2 22 rfl rfl (by kernel_rfl) (by kernel_rfl) (by kernel_rfl) (fun _ _ _ _ _ h => h) (by kernel_rfl) (fun W hS => by (obtain ⟨s1, s2, s3⟩ := hS); go_simp; try with_reducible rfl) s0 ?_
      simp only [List.setIfInBounds_toArray, List.set_cons_succ, List.set_cons_zero]
      refine wpAnyH_do 3 23 rfl rfl (by kernel_rfl) (by kernel_rfl) (by kernel_rfl) (fun _ _ _ _ _ h => h) (by kernel_rfl) (fun W hS => by (obtain ⟨s1, s2, s3⟩ := hS); go_simp; try with_reducible rfl) s0 ?_
      simp only [List.setIfInBounds_toArray, List.set_cons_succ, List.set_cons_zero]
      refine wpAnyH_do 4 24 rfl rfl (by kernel_rfl) (by kernel_rfl) (by kernel_rfl) (fun _ _ _ _ _ h => h) (by kernel_rfl) (fun W hS => by (obtain ⟨s1, s2, s3⟩ := hS); go_simp; try with_reducible rfl) s0 ?_
      simp only [List.setIfInBounds_toArray, List.set_cons_succ, List.set_cons_zero]
      refine wpAnyH_do 5 25 rfl rfl (by kernel_rfl) (by kernel_rfl) (by kernel_rfl) (fun _ _ _ _ _ h => h) (by kernel_rfl) (fun W hS => by (obtain ⟨s1, s2, s3⟩ := hS); go_simp; try with_reducible rfl) s0 ?_
      simp only [List.setIfInBounds_toArray, List.set_cons_succ, List.set_cons_zero]
      refine wpAnyH_do 6 26 rfl rfl (by kernel_rfl) (by kernel_rfl) (by kernel_rfl) (fun _ _ _ _ _ h => h) (by kernel_rfl) (fun W hS => by (obtain ⟨s1, s2, s3⟩ := hS); go_simp; try with_reducible rfl) s0 ?_
      simp only [List.setIfInBounds_toArray, List.set_cons_succ, List.set_cons_zero]
      refine wpAnyH_do 7 19 rfl rfl (by kernel_rfl) (by kernel_rfl) (by kernel_rfl) (fun _ _ _ _ _ h => h) (by kernel_rfl) (fun W hS => by (obtain ⟨s1, s2, s3⟩ := hS); go_simp; try with_reducible rfl) s0 ?_
      simp only [List.setIfInBounds_toArray, List.set_cons_succ, List.set_cons_zero]
      refine wpAnyH_do 8 27 rfl rfl (by kernel_rfl) (by kernel_rfl) (by kernel_rfl) (fun _ _ _ _ _ h => h) (by kernel_rfl) (fun W hS => by (obtain ⟨s1, s2, s3⟩ := hS); go_simp; try with_reducible rfl) s0 ?_
      simp only [List.setIfInBounds_toArray, List.set_cons_succ, List.set_cons_zero]
      refine wpAnyH_do 9 28 rfl rfl (by kernel_rfl) (by kernel_rfl) (by kernel_rfl) (fun _ _ _ _ _ h => h) (by kernel_rfl) (fun W hS => by (obtain ⟨s1, s2, s3⟩ := hS); go_simp; try with_reducible rfl) s0 ?_
      simp only [List.setIfInBounds_toArray, List.set_cons_succ, List.set_cons_zero]
      refine wpAnyH_do 10 9 rfl rfl (by kernel_rfl) (by kernel_rfl) (by kernel_rfl) (fun _ _ _ _ _ h => h) (by kernel_rfl) (fun W hS => by (obtain ⟨s1, s2, s3⟩ := hS); go_simp; try with_reducible rfl) s0 ?_
      simp only [List.setIfInBounds_toArray, List.set_cons_succ, List.set_cons_zero]
      refine wpAnyH_do 11 10 rfl rfl (by kernel_rfl) (by kernel_rfl) (by kernel_rfl) (fun _ _ _ _ _ h => h) (by kernel_rfl) (fun W hS => by (obtain ⟨s1, s2, s3⟩ := hS); go_simp; try with_reducible rfl) s0 ?_
      simp only [List.setIfInBounds_toArray, List.set_cons_succ, List.set_cons_zero]
      refine wpAnyH_done (by kernel_rfl) ?_ _
      have HH2 := Bx.mk (HH.out.later B1d)
      have S2 := S1.trans (DStep.ofBelow X B1d)
      generalize w2.drew = w3 at *
      go_wp2_with fail
      go_ret2
      rw [← hO]
      exact ⟨rfl, R, ⟨_, _, _, _, _, _, _, _, HH2.out⟩, S2, fun _ h => .inl h⟩
    | some e =>
      rw [hts] at hfind
      have hO := HO2.out
      rw [hts] at hO
      simp only at hO
      have HO3 := Bx.mk hO
      have hF := (HH.out.en task e hts).1
      rw [hF] at lk
      change (Instr.lookup _ _ _ true).run _ _ = .ok (.tuple #[.pointer (some ⟨B task, 0, none⟩), .bool true]) _ at lk
      have s0 := And.intro c3d (And.intro t0d lk)
      clear hO HO2 hfind hF
      go_upto_region 4 with fail
      refine wp_region_held_drew (S := fun W => W.cell? ⟨p, 3, none⟩ = some (.map (some mb)) ∧ W.cell? ⟨w.heap.size, 0, none⟩ = some (.int .i64 task) ∧ (Instr.lookup 96 (.map (some mb)) (.int .i64 task) true).run Try.prog W = .ok (.tuple #[.pointer (some ⟨B task, 0, none⟩), .bool true]) W) (by kernel_rfl) s0 (fun _ => ?_)
      refine wpAnyH_do 0 20 rfl rfl (by kernel_rfl) (by kernel_rfl) (by kernel_rfl) (fun _ _ _ _ _ h => h) (by kernel_rfl) (fun W hS => by (obtain ⟨s1, s2, s3⟩ := hS); go_simp; try with_reducible rfl) s0 ?_
      simp only [List.setIfInBounds_toArray, List.set_cons_succ, List.set_cons_zero]
      refine wpAnyH_do 1 21 rfl rfl (by kernel_rfl) (by kernel_rfl) (by kernel_rfl) (fun _ _ _ _ _ h => h) (by kernel_rfl) (fun W hS => by (obtain ⟨s1, s2, s3⟩ := hS); go_simp; try with_reducible rfl) s0 ?_
      simp only [List.setIfInBounds_toArray, List.set_cons_succ, List.set_cons_zero]
      refine wpAnyH_do 2 22 rfl rfl (by kernel_rfl) (by kernel_rfl) (by kernel_rfl) (fun _ _ _ _ _ h => h) (by kernel_rfl) (fun W hS => by (obtain ⟨s1, s2, s3⟩ := hS); go_simp; try with_reducible rfl) s0 ?_
      simp only [List.setIfInBounds_toArray, List.set_cons_succ, List.set_cons_zero]
      refine wpAnyH_do 3 23 rfl rfl (by kernel_rfl) (by kernel_rfl) (by kernel_rfl) (fun _ _ _ _ _ h => h) (by kernel_rfl) (fun W hS => by (obtain ⟨s1, s2, s3⟩ := hS); go_simp; try with_reducible rfl) s0 ?_
      simp only [List.setIfInBounds_toArray, List.set_cons_succ, List.set_cons_zero]
      refine wpAnyH_do 4 24 rfl rfl (by kernel_rfl) (by kernel_rfl) (by kernel_rfl) (fun _ _ _ _ _ h => h) (by kernel_rfl) (fun W hS => by (obtain ⟨s1, s2, s3⟩ := hS); go_simp; try with_reducible rfl) s0 ?_
      simp only [List.setIfInBounds_toArray, List.set_cons_succ, List.set_cons_zero]
      refine wpAnyH_do 5 25 rfl rfl (by kernel_rfl) (by kernel_rfl) (by kernel_rfl) (fun _ _ _ _ _ h => h) (by kernel_rfl) (fun W hS => by (obtain ⟨s1, s2, s3⟩ := hS); go_simp; try with_reducible rfl) s0 ?_
      simp only [List.setIfInBounds_toArray, List.set_cons_succ, List.set_cons_zero]
      refine wpAnyH_do 6 26 rfl rfl (by kernel_rfl) (by kernel_rfl) (by kernel_rfl) (fun _ _ _ _ _ h => h) (by kernel_rfl) (fun W hS => by (obtain ⟨s1, s2, s3⟩ := hS); go_simp; try with_reducible rfl) s0 ?_
      simp only [List.setIfInBounds_toArray, List.set_cons_succ, List.set_cons_zero]
      refine wpAnyH_do 7 19 rfl rfl (by kernel_rfl) (by kernel_rfl) (by kernel_rfl) (fun _ _ _ _ _ h => h) (by kernel_rfl) (fun W hS => by (obtain ⟨s1, s2, s3⟩ := hS); go_simp; try with_reducible rfl) s0 ?_
      simp only [List.setIfInBounds_toArray, List.set_cons_succ, List.set_cons_zero]
      refine wpAnyH_do 8 27 rfl rfl (by kernel_rfl) (by kernel_rfl) (by kernel_rfl) (fun _ _ _ _ _ h => h) (by kernel_rfl) (fun W hS => by (obtain ⟨s1, s2, s3⟩ := hS); go_simp; try with_reducible rfl) s0 ?_
      simp only [List.setIfInBounds_toArray, List.set_cons_succ, List.set_cons_zero]
      refine wpAnyH_do 9 28 rfl rfl (by kernel_rfl) (by kernel_rfl) (by kernel_rfl) (fun _ _ _ _ _ h => h) (by kernel_rfl) (fun W hS => by (obtain ⟨s1, s2, s3⟩ := hS); go_simp; try with_reducible rfl) s0 ?_
      simp only [List.setIfInBounds_toArray, List.set_cons_succ, List.set_cons_zero]
      refine wpAnyH_do 10 9 rfl rfl (by kernel_rfl) (by kernel_rfl) (by kernel_rfl) (fun _ _ _ _ _ h => h) (by kernel_rfl) (fun W hS => by (obtain ⟨s1, s2, s3⟩ := hS); go_simp; try with_reducible rfl) s0 ?_
      simp only [List.setIfInBounds_toArray, List.set_cons_succ, List.set_cons_zero]
      refine wpAnyH_do 11 10 rfl rfl (by kernel_rfl) (by kernel_rfl) (by kernel_rfl) (fun _ _ _ _ _ h => h) (by kernel_rfl) (fun W hS => by (obtain ⟨s1, s2, s3⟩ := hS); go_simp; try with_reducible rfl) s0 ?_
      simp only [List.setIfInBounds_toArray, List.set_cons_succ, List.set_cons_zero]
      refine wpAnyH_done (by kernel_rfl) ?_ _
      have H2 := HH.out.later B1d
      have S2 := S1.trans (DStep.ofBelow X B1d)
      have t1 : w2.drew.cell? ⟨w.heap.size, 1, none⟩ = some (.int .i64 worker) := t1
      have t2 : w2.drew.cell? ⟨w.heap.size, 2, none⟩ = some (.int .i64 tr) := t2
      have t3 : w2.drew.cell? ⟨w.heap.size, 3, none⟩ = some (.slice ao b.length cap) := t3
      have b2 := b1.below B1d
      have hs2 : w2.drew.heap.size = w.heap.size + 1 := hs1
      have HTS := Bx.mk hts
      have HB := Bx.mk (wrong_ok hr)
      generalize w2.drew = w3 at *
      have HH2 := Bx.mk H2
      clear c3 c3d lk s0 B1d HWR HH b1 S1 B1 H1 hs1 t0
      have e1 := H2.e hts 1 _ rfl
      obtain ⟨ta, tc, hT⟩ := own_isSlice (H2.tr task e hts).1
      rw [hT] at e1
      have HT := Bx.mk hT
      by_cases hneg : tr < 0
      · have hO := HO3.out
        have hm : e.mine worker tr = false := by unfold En.mine; rw [decide_eq_false (by omega)]; rfl
        rw [if_pos hm] at hO
        clear HO3 hm hts H2 hT
        go_upto_region 7 with fail
        go_quiet (fail)
        rename_i nq _
        go_wp2_with fail
        go_ret2
        rw [← hO]
        exact ⟨rfl, R, ⟨_, _, _, _, _, _, _, _, HH2.out.later (belD (Below.refl _ _) nq)⟩, S2.trans (DStep.ofBelow X (belD (Below.refl _ _) nq)), fun _ h => .inl h⟩
      · obtain ⟨n, hn⟩ : ∃ n, e.tries.length = n := ⟨_, rfl⟩
        rw [hn] at e1
        have HN := Bx.mk hn
        by_cases hlen : (n : Int) ≤ tr
        · have hO := HO3.out
          have hm : e.mine worker tr = false := by unfold En.mine; rw [List.getElem?_eq_none (by omega)]; simp
          rw [if_pos hm] at hO
          clear HO3 hm hts H2 hT hn
          go_upto_region 7 with fail
          go_quiet (fail)
          rename_i nq _
          go_wp2_with fail
          go_ret2
          rw [← hO]
          exact ⟨rfl, R, ⟨_, _, _, _, _, _, _, _, HH2.out.later (belD (Below.refl _ _) nq)⟩, S2.trans (DStep.ofBelow X (belD (Below.refl _ _) nq)), fun _ h => .inl h⟩
        · obtain ⟨i, rfl⟩ : ∃ i : Nat, tr = (i : Int) := ⟨tr.toNat, by omega⟩
          have hil : i < e.tries.length := by omega
          obtain ⟨x, hx⟩ : ∃ x, e.tries[i]? = some x := ⟨_, List.getElem?_eq_getElem hil⟩
          obtain ⟨gt, ct, hT2, hct, hcm, y0, y1⟩ := H2.try hts hx
          rw [hT] at hT2
          injection hT2 with q1 q2 q3
          subst q1 q3
          rw [hn] at hct hil
          have hmi : e.mine worker (i : Int) = (x.1 == worker) := by unfold En.mine; rw [Int.toNat_natCast, hx]; simp
          by_cases hxw : x.1 = worker
          · have hO := HO3.out
            subst hxw
            rw [hmi, if_neg (by simp)] at hO
            have HO4 := Bx.mk hO
            have hxn : (x.1 == x.1) = true := by simp
            have hil2 : (i : Int) < (n : Int) := by omega
            clear HO3 hO hmi hil q2
            have hneg : ¬ (i : Int) < 0 := by omega
            have e3 := H2.e hts 3 _ rfl
            have f3 := fun j => H2.efz hts j
            have fp := H2.fz 1
            have hbp : B task ≠ p := kind_ne (H2.ke hts) H2.kp (by decide)
            obtain ⟨bk, hbk⟩ : ∃ b, B task = b := ⟨_, rfl⟩
            have HBK := Bx.mk hbk
            have hpl := HXS.out p (HH2.out.xp)
            have hbl1 := HXS.out _ (H2.en _ _ hts).2.2
            rw [hbk] at e1 e3 f3 hbp hbl1 ⊢
            clear hts H2 hT hn hbk
            go_upto_region 7 with fail
            go_quiet (fail)
            rename_i nq _
            have B4 := belD (Below.refl w3.heap.size w3) nq
            have b4 := b2.below B4
            have HH4 := Bx.mk (HH2.out.later B4)
            have S4 := S2.trans (DStep.ofBelow X B4)
            have t0 : (w3.drewN nq).cell? ⟨w.heap.size, 0, none⟩ = some (.int .i64 task) := t0d
            have t1 : (w3.drewN nq).cell? ⟨w.heap.size, 1, none⟩ = some (.int .i64 x.1) := t1
            have t2 : (w3.drewN nq).cell? ⟨w.heap.size, 2, none⟩ = some (.int .i64 i) := t2
            have t3 : (w3.drewN nq).cell? ⟨w.heap.size, 3, none⟩ = some (.slice ao b.length cap) := t3
            have e3 : (w3.drewN nq).cell? ⟨bk, 3, none⟩ = some (.bool e.done) := e3
            have f3 : ∀ j, (w3.drewN nq).frozen? ⟨bk, j, none⟩ = false := f3
            have fp : (w3.drewN nq).frozen? ⟨p, 1, none⟩ = false := fp
            have hs4 : (w3.drewN nq).heap.size = w.heap.size + 1 := hs2
            generalize w3.drewN nq = w4 at *
            by_cases hbig : 65536 < b.length
            · have hO := HO4.out
              rw [if_pos hbig] at hO
              have hbI : (65536 : Int) < (b.length : Int) := by omega
              go_wp2_with fail
              go_ret2
              rw [← hO]
              exact ⟨rfl, R, ⟨_, _, _, _, _, _, _, _, HH4.out⟩, S4, fun _ h => .inl h⟩
            · have hO := HO4.out
              rw [if_neg hbig] at hO
              have hbI : ¬ (65536 : Int) < (b.length : Int) := by omega
              have HBIG := Bx.mk hbig
              have HO5 := Bx.mk hO
              clear hO HO4 hbig
              have hpl4 : p < w4.heap.size := by omega
              have c14 := HH4.out.c1
              have hbl4 : bk < w4.heap.size := by omega
              have HBL := Bx.mk hbl4
              obtain ⟨_, ht0, ht1, ht2⟩ := HB.out
              have H5 := HH4.out.tick t ⟨ht2, ht1⟩
              have hne : ∀ j v, w4.cell? ⟨w.heap.size, j, none⟩ = some v → (w4.setCell ⟨p, 1, none⟩ (.int .i64 t)).cell? ⟨w.heap.size, j, none⟩ = some v := fun j v hv => by
                rw [show (w4.setCell ⟨p, 1, none⟩ (.int .i64 t)).cell? ⟨w.heap.size, j, none⟩ = w4.cell? ⟨w.heap.size, j, none⟩ from by unfold World.cell?; rw [Below.heap_setCell _ _ _ _ (show w.heap.size ≠ p by omega)]]
                exact hv
              have hnb : ∀ j v, w4.cell? ⟨bk, j, none⟩ = some v → (w4.setCell ⟨p, 1, none⟩ (.int .i64 t)).cell? ⟨bk, j, none⟩ = some v := fun j v hv => by
                rw [show (w4.setCell ⟨p, 1, none⟩ (.int .i64 t)).cell? ⟨bk, j, none⟩ = w4.cell? ⟨bk, j, none⟩ from by unfold World.cell?; rw [Below.heap_setCell _ _ _ _ hbp]]
                exact hv
              have t05 := hne _ _ t0
              have t15 := hne _ _ t1
              have t25 := hne _ _ t2
              have t35 := hne _ _ t3
              have e35 := hnb _ _ e3
              have f35 : ∀ j, (w4.setCell ⟨p, 1, none⟩ (.int .i64 t)).frozen? ⟨bk, j, none⟩ = false := fun j => by
                rw [show (w4.setCell ⟨p, 1, none⟩ (.int .i64 t)).frozen? ⟨bk, j, none⟩ = w4.frozen? ⟨bk, j, none⟩ from by unfold World.frozen?; rw [Below.heap_setCell _ _ _ _ hbp]]
                exact f3 j
              have b5 := rvSame b4 (w' := w4.setCell ⟨p, 1, none⟩ (.int .i64 t)) (fun g _ hg => Below.heap_setCell _ _ _ _ (fun q => HSP.out g hg (by rw [q]; exact HH4.out.xp)))
              have S5 := S4.set (b := p) (i := 1) (.inl HH4.out.xp) (.int .i64 t)
              have hs5 : (w4.setCell ⟨p, 1, none⟩ (.int .i64 t)).heap.size = w4.heap.size := World.size_setCell _ _ _
              clear hne hnb
              go_upto_region 12 with fail
              clear e3 f3 t0 t1 t2 t3 b4 S4 fp ht0 ht1 ht2 c14
              generalize w4.setCell ⟨p, 1, none⟩ (.int .i64 t) = w5 at *
              have HH5 := Bx.mk H5
              clear H5
              cases hd : e.done
              · have hO := HO5.out
                rw [hd, if_neg (by simp)] at hO
                rw [hd] at e35
                have hb5 : w5.heap[bk]? = some (enO e (BV task) (TV task) (AV task)) := by
                  rw [← HBK.out]
                  exact (HH5.out.en task e HTS.out).2.1
                go_upto_region 15 with fail
                have hX := HH5.out.xp
                have S6 := S5.set (b := bk) (i := 3) (.inl (by rw [← HBK.out]; exact (HH5.out.en task e HTS.out).2.2)) (.bool true)
                have hb6 : (w5.setCell ⟨bk, 3, none⟩ (.bool true)).heap[bk]? = some (enO { e with done := true } (BV task) (TV task) (AV task)) := by
                  unfold enO at hb5 ⊢
                  simp [World.setCell, Array.getElem?_modify, hb5]
                have ho6 : ∀ g, g ≠ bk → (w5.setCell ⟨bk, 3, none⟩ (.bool true)).heap[g]? = w5.heap[g]? := fun g hg => Below.heap_setCell _ _ _ _ hg
                have hs6 : (w5.setCell ⟨bk, 3, none⟩ (.bool true)).heap.size = w5.heap.size := World.size_setCell _ _ _
                generalize w5.setCell ⟨bk, 3, none⟩ (.bool true) = w6 at *
                have hcb : ∀ j, w6.cell? ⟨w.heap.size, j, none⟩ = w5.cell? ⟨w.heap.size, j, none⟩ := fun j => by unfold World.cell?; rw [ho6 w.heap.size (by omega)]
                have t0 := (hcb 0).trans t05
                have t1 := (hcb 1).trans t15
                have t2 := (hcb 2).trans t25
                have t3 := (hcb 3).trans t35
                have k4 : w6.cell? ⟨bk, 4, none⟩ = some (.int .i64 e.ans.task) := by unfold enO at hb6; simp [World.cell?, hb6]
                have k5 : w6.cell? ⟨bk, 5, none⟩ = some (.int .i64 e.ans.worker) := by unfold enO at hb6; simp [World.cell?, hb6]
                have k6 : w6.cell? ⟨bk, 6, none⟩ = some (.int .i64 e.ans.tr) := by unfold enO at hb6; simp [World.cell?, hb6]
                have k7 : w6.cell? ⟨bk, 7, none⟩ = some (AV task) := by unfold enO at hb6; simp [World.cell?, hb6]
                have kf : ∀ j, w6.frozen? ⟨bk, j, none⟩ = false := fun j => by unfold enO at hb6; simp [World.frozen?, hb6]
                have hbl6 : bk < w6.heap.size := by omega
                have hbw6 : bk ≠ w.heap.size := by omega
                have HO6 := Bx.mk ho6
                have HC6 := Bx.mk hcb
                clear hcb ho6 t05 t15 t25 t35 e35 f35 hb5
                obtain ⟨av, hav⟩ : ∃ v, AV task = v := ⟨_, rfl⟩
                have HAV := Bx.mk hav
                rw [hav] at k7 hb6
                clear hav
                go_upto_region 16 with fail
                obtain ⟨w7, hw7⟩ : ∃ W, (((w6.setCell ⟨bk, 4, none⟩ (.int .i64 task)).setCell ⟨bk, 5, none⟩ (.int .i64 x.1)).setCell ⟨bk, 6, none⟩ (.int .i64 i)).setCell ⟨bk, 7, none⟩ (.slice ao b.length cap) = W := ⟨_, rfl⟩
                have hb7 : w7.heap[bk]? = some (enO { e with done := true, ans := ⟨task, x.1, i, b⟩ } (BV task) (TV task) (.slice ao b.length cap)) := by
                  unfold enO at hb6 ⊢
                  rw [← hw7]
                  simp [World.setCell, Array.getElem?_modify, hb6]
                have ho7 : ∀ g, g ≠ bk → w7.heap[g]? = w6.heap[g]? := fun g hg => by
                  rw [← hw7, Below.heap_setCell _ _ _ _ hg, Below.heap_setCell _ _ _ _ hg, Below.heap_setCell _ _ _ _ hg, Below.heap_setCell _ _ _ _ hg]
                have hs7 : w7.heap.size = w6.heap.size := by rw [← hw7]; simp only [World.size_setCell]
                have hXb : X bk := by rw [← HBK.out]; exact (HH5.out.en task e HTS.out).2.2
                have S7 : DStep X X w w7 := by rw [← hw7]; exact (((S6.set (.inl hXb) _).set (.inl hXb) _).set (.inl hXb) _).set (.inl hXb) _
                rw [hw7]
                have t37 : w7.cell? ⟨w.heap.size, 3, none⟩ = some (.slice ao b.length cap) := by
                  rw [← t3]
                  unfold World.cell?
                  rw [ho7 w.heap.size (by omega)]
                have b7 := rvSame b5 (w' := w7) (fun g _ hg => (ho7 g (fun q => HSP.out g hg (by rw [q]; exact hXb))).trans (HO6.out g (fun q => HSP.out g hg (by rw [q]; exact hXb))))
                clear hw7 t0 t1 t2 t3 k4 k5 k6 k7 kf hb6 b5 S6
                go_wp2_with fail
                refine (cloneB_any _ _ _ b7 hbl).mono ?_
                rintro e8 w8 ⟨v8, rfl, M8⟩
                have O8 := M8.1
                rw [List.length_map] at O8
                have B8 : Below w7.heap.size w7 w8 := M8.2
                have hb8 := (B8.block bk (by omega)).trans hb7
                have k7 : w8.cell? ⟨bk, 7, none⟩ = some (.slice ao b.length cap) := by unfold enO at hb8; simp [World.cell?, hb8]
                have kf : w8.frozen? ⟨bk, 7, none⟩ = false := by unfold enO at hb8; simp [World.frozen?, hb8]
                have hbl8 : bk < w8.heap.size := by have := B8.size; omega
                have hsz := B8.size
                obtain ⟨a8, c8, rfl⟩ := own_isSlice O8
                go_wp2_with fail
                go_ret2
                rw [← hO]
                have hbig := HBIG.out
                have hlo : ∀ g, (Value.slice a8 b.length c8).ownBlock = some g → w7.heap.size ≤ g ∧ g < w8.heap.size := fun g hg => O8.lt g hg
                have H9 := HH5.out.reply (w' := w8.setCell ⟨bk, 7, none⟩ (.slice a8 b.length c8)) (k := task) (e := e) (e' := { e with done := true, ans := ⟨task, x.1, i, b⟩ }) (av := .slice a8 b.length c8) HTS.out rfl rfl
                  (by
                    rw [HBK.out]
                    unfold enO at hb8 ⊢
                    simp [World.setCell, Array.getElem?_modify, hb8])
                  (by rw [World.size_setCell]; omega)
                  (fun g hg hn => by
                    rw [HBK.out] at hn
                    rw [Below.heap_setCell _ _ _ _ hn, B8.block g (by omega), ho7 g hn, HO6.out g hn])
                  (rvSame (Rv.of_own O8) (fun g hg hv => Below.heap_setCell _ _ _ _ (fun q => by have := (hlo g hv).1; change g = bk at q; omega)))
                  (fun g hg => by
                    rw [World.size_setCell]
                    have := hlo g hg
                    omega)
                  (ok_entry HH5.out.ok HTS.out rfl ⟨(HH5.out.ok.bod _ e HTS.out).1, by show b.length ≤ 65536; omega⟩)
                exact ⟨rfl, _, ⟨_, _, _, _, _, _, _, _, H9⟩, (S7.trans (DStep.ofBelow X B8)).set (.inl hXb) _, fun g hg => hg.elim .inl (fun q => .inr (by have := (hlo g q).1; have := S7.size; omega))⟩
              · have hO := HO5.out
                rw [hd, if_pos rfl] at hO
                rw [hd] at e35
                go_wp2_with fail
                go_ret2
                rw [← hO]
                exact ⟨rfl, R, ⟨_, _, _, _, _, _, _, _, HH5.out⟩, S5, fun _ h => .inl h⟩
          · have hO := HO3.out
            rw [hmi, if_pos (by rw [beq_eq_false_iff_ne]; exact hxw)] at hO
            clear HO3 hmi hts H2 hT hn q2
            have hxn : (x.1 == worker) = false := by rw [beq_eq_false_iff_ne]; exact hxw
            have hil2 : (i : Int) < (n : Int) := by omega
            clear hxw hneg hil
            have hneg : ¬ (i : Int) < 0 := by omega
            go_upto_region 7 with fail
            go_quiet (fail)
            rename_i nq _
            go_wp2_with fail
            go_ret2
            rw [← hO]
            exact ⟨rfl, R, ⟨_, _, _, _, _, _, _, _, HH2.out.later (belD (Below.refl _ _) nq)⟩, S2.trans (DStep.ofBelow X (belD (Below.refl _ _) nq)), fun _ h => .inl h⟩
  · have hO := HO1.out
    rw [if_pos hr0] at hO
    go_wp2_with fail
    refine HWR.out.mono ?_
    rintro e w2 ⟨rfl, rfl⟩
    go_wp2_with fail
    go_ret2
    rw [← hO]
    exact ⟨rfl, R, ⟨_, _, _, _, _, _, _, _, HH.out⟩, S1, fun _ h => .inl h⟩
end
end Go.Proofs.Ytfdacckkdjpjhaa
