/- Program-independent lemmas of this claim: reading predicates for slices, and the append law over them. -/
import Derived.WalkKit
import Derived.WalkSpells
import Derived.WalkLawsBesides
import Derived.Laws.AppendOwnNone
import Derived.Laws.BytesArg
import Derived.Outline
namespace Go.Proofs.Ytpehnggglolnoaa
open Go.RowKit

/-- The cells from address ao on read us. -/
def Rd (w : World) (ao : Option Addr) (us : List Value) : Prop :=
  us = [] ∨ ∃ b off, ao = some ⟨b, off, none⟩ ∧ ∀ i u, us[i]? = some u → w.cell? ⟨b, off + i, none⟩ = some u

/-- The slice value v has n elements, whose cells are us. -/
def Rv (w : World) (v : Value) (n : Nat) (us : List Value) : Prop :=
  ∃ ao cap, v = .slice ao n cap ∧ n ≤ cap ∧ cap ≤ maxLen ∧ (ao = none → cap = 0) ∧ Rd w ao us

theorem bel {W a b : World} (h : Below W.heap.size W a) (k : Below a.heap.size a b) : Below W.heap.size W b := h.trans (k.mono h.size)
theorem belA {W a b : World} {o : Obj} (h : Below W.heap.size W a) (k : Below (a.alloc o).heap.size (a.alloc o) b) : Below W.heap.size W b :=
  (h.alloc h.size o).trans (k.mono (by have := h.size; simp; omega))

theorem Rd.nil (w : World) (ao : Option Addr) : Rd w ao [] := .inl rfl

theorem Rd.below {w w' : World} {ao : Option Addr} {us : List Value} (h : Rd w ao us) (hb : Below w.heap.size w w') : Rd w' ao us := by
  rcases h with h | ⟨b, off, h1, h2⟩
  · exact .inl h
  · refine .inr ⟨b, off, h1, fun i u hi => ?_⟩
    have hc := h2 i u hi
    have hlt := World.block_lt_of_cell? w _ hc
    exact (hb.cell (p := ⟨b, off + i, none⟩) hlt).trans hc

theorem Rd.belowB {B : Nat} {w0 w w' : World} {ao : Option Addr} {us : List Value} (h : Rd w0 ao us) (h0 : w0.heap.size ≤ B) (hb : Below w0.heap.size w0 w) (hb' : Below B w w') : Rd w' ao us :=
  h.below (hb.trans (hb'.mono h0))

theorem Rv.below {w w' : World} {v : Value} {n : Nat} {us : List Value} (h : Rv w v n us) (hb : Below w.heap.size w w') : Rv w' v n us := by
  obtain ⟨ao, cap, h1, h2, h3, h4, h5⟩ := h
  exact ⟨ao, cap, h1, h2, h3, h4, h5.below hb⟩

theorem Rv.nil (w : World) : Rv w (.slice none 0 0) 0 [] := ⟨none, 0, rfl, Nat.le_refl _, by simp, fun _ => rfl, Rd.nil _ _⟩
theorem Rv.drew {w : World} {v : Value} {n : Nat} {us : List Value} (h : Rv w v n us) : Rv w.drew v n us := h

theorem Rd.take {w : World} {ao : Option Addr} {us : List Value} (h : Rd w ao us) (k : Nat) : Rd w ao (us.take k) := by
  rcases h with h | ⟨b, off, h1, h2⟩
  · exact .inl (by simp [h])
  · refine .inr ⟨b, off, h1, fun i u hi => h2 i u ?_⟩
    rw [List.getElem?_take] at hi
    split at hi
    · exact hi
    · cases hi

/-- The cells from the k-th on, at the address moved on. -/
theorem Rd.drop {w : World} {ao : Option Addr} {us : List Value} (h : Rd w ao us) (k : Nat) : Rd w (ao.map (·.add k)) (us.drop k) := by
  rcases h with h | ⟨b, off, h1, h2⟩
  · exact .inl (by simp [h])
  · refine .inr ⟨b, off + k, ?_, fun i u hi => ?_⟩
    · subst h1
      simp only [Option.map_some, Addr.add]
      split <;> simp_all
    · rw [List.getElem?_drop] at hi
      have := h2 (k + i) u hi
      rwa [← Nat.add_assoc] at this

theorem Rv.opened {w : World} {v : Value} {n : Nat} {us : List Value} (h : Rv w v n us) : ∃ ao cap, v = .slice ao n cap ∧ n ≤ cap ∧ Rd w ao us := by
  obtain ⟨ao, cap, h1, h2, _, _, h5⟩ := h
  exact ⟨ao, cap, h1, h2, h5⟩

theorem Rd.cell {w : World} {ao : Option Addr} {us : List Value} (h : Rd w ao us) {i : Nat} {u : Value} (hi : us[i]? = some u) :
    ∃ b off, ao = some ⟨b, off, none⟩ ∧ w.cell? ⟨b, off + i, none⟩ = some u := by
  rcases h with h | ⟨b, off, h1, h2⟩
  · simp [h] at hi
  · exact ⟨b, off, h1, h2 i u hi⟩

/-- What is owned can be read. -/
theorem Rv.of_own {w : World} {base : Nat} {e : TypeId} {size : Nat} {v : Value} {n : Nat} {xs : List Value} (h : w.ownsRow base e size v n xs) : Rv w v n xs := by
  obtain ⟨hl, h⟩ := h
  rcases h with ⟨rfl, rfl⟩ | ⟨g, cap, cur, rfl, hb, hg, hn, hc, hs, ht⟩
  · refine ⟨none, 0, rfl, Nat.le_refl _, Nat.zero_le _, fun _ => rfl, .inl ?_⟩
    exact List.eq_nil_of_length_eq_zero (by simpa using hl)
  · refine ⟨some ⟨g, 0, none⟩, cap, rfl, hn, hc, (fun h => by cases h), .inr ⟨g, 0, rfl, fun i u hi => ?_⟩⟩
    have hown : w.ownsRow base e size (.slice (some ⟨g, 0, none⟩) n cap) n xs := ⟨hl, .inr ⟨g, cap, cur, rfl, hb, hg, hn, hc, hs, ht⟩⟩
    have := hown.cells (g := g) rfl i u hi
    rwa [show ((⟨g, 0, none⟩ : Addr).add i) = ⟨g, 0 + i, none⟩ from by unfold Addr.add; split <;> simp_all] at this

section
variable {P : Program} (w : World)

/-- append of whatever can be read onto what the call itself has made. -/
theorem run_append_rd (base : Nat) (t ty e : TypeId) (i : TypeInfo) (z : Value) (size bytes : Nat) (ht : P.underlying t = some (.slice e)) (hi : P.info? e = some i) (hz : i.zero = some z)
    (hsize : i.size = size) (hby : i.bytes = bytes) (hzs : z.cells.size = size) (hsz : 0 < size)
    (v : Value) (n : Nat) (xs : List Value) (hown : w.ownsRow base e size v n xs)
    (y : Value) (m : Nat) (news : List Value) (hy : Rv w y m news) (hl : news.length = m * size) (h1 : ∀ u ∈ news, u.oneCell' = true)
    (h63 : n + m ≤ maxLen) (hbytes : (n + m) * bytes ≤ 140737488355328) (hbase : base ≤ w.heap.size) :
    ∃ v' w', (Builtin.append_ #[t, t] ty #[v, y]).run P w = .ok v' w' ∧ w'.ownsRow base e size v' (n + m) (xs ++ news) ∧ w.grownBy w' v.ownBlock ∧
      (v' = .slice none 0 0 ↔ v = .slice none 0 0 ∧ m = 0) := by
  obtain ⟨ao, cap, rfl, hmc, hcm, hnone, hrd⟩ := hy
  rcases ao with _ | a
  · have hc0 := hnone rfl
    have hm0 : m = 0 := by omega
    subst hc0; subst hm0
    have hn : news = [] := List.eq_nil_of_length_eq_zero (by simpa using hl)
    subst hn
    refine ⟨v, w, run_append_owned_none w base t ty e i size ht hi v n xs hown, by simpa using hown, World.grownBy.refl _ _, by simp⟩
  · refine run_append_own w base t ty e i z size bytes ht hi hz hsize hby hzs hsz v n xs hown a m cap news hl ?_ h1 h63 hbytes hbase
    intro j u hj
    obtain ⟨b, off, ha, hc⟩ := hrd.cell hj
    obtain rfl : a = ⟨b, off, none⟩ := by simpa using ha
    rw [show ((⟨b, off, none⟩ : Addr).add j) = ⟨b, off + j, none⟩ from by unfold Addr.add; split <;> simp_all]
    exact hc

theorem wpList_append_rd {ops : Array Oper} {rest : List Oper} {o : Oper} {a : Act} {Q : Exit → Act → World → Prop} (hgd : o.guard = none) (s x : Operand) (t : TypeId)
    (ho : o.op = .call { callee := .builtin .append, args := #[s, x], argTypes := #[t, t] })
    (base : Nat) (e : TypeId) (i : TypeInfo) (z : Value) (size bytes : Nat) (ht : P.underlying t = some (.slice e)) (hi : P.info? e = some i) (hz : i.zero = some z)
    (hsize : i.size = size) (hby : i.bytes = bytes) (hzs : z.cells.size = size) (hsz : 0 < size)
    (v : Value) (n : Nat) (xs : List Value) (hs : a.eval s = v) (hown : w.ownsRow base e size v n xs)
    (y : Value) (m : Nat) (news : List Value) (hx : a.eval x = y) (hy : Rv w y m news) (hl : news.length = m * size) (h1 : ∀ u ∈ news, u.oneCell' = true)
    (h63 : n + m ≤ maxLen) (hbytes : (n + m) * bytes ≤ 140737488355328) (hbase : base ≤ w.heap.size)
    (h : ∀ v' w', w'.ownsRow base e size v' (n + m) (xs ++ news) → w.grownBy w' v.ownBlock → (v' = .slice none 0 0 ↔ v = .slice none 0 0 ∧ m = 0) → wpList P ops Q rest (a.put o.dst v') w') : wpList P ops Q (o :: rest) a w := by
  refine wpList_plain hgd fun K hK => ?_
  obtain ⟨v', w', hr, h2, h3, h4⟩ := run_append_rd (P := P) w base t o.type e i z size bytes ht hi hz hsize hby hzs hsz v n xs hown y m news hy hl h1 h63 hbytes hbase
  unfold Oper.wp execOp
  simp only [ho, resolve, invoke, builtin, Sem.run_bind, Sem.run_pure, Result.andThen_ok, List.map_toArray, List.map_cons, List.map_nil, hs, hx, hr]
  exact hK _ _ (h v' w' h2 h3 h4)
end

/-- What is known of a slice type t over the element type e: one closed fact. -/
structure Elem (P : Program) (t e : TypeId) (z : Value) (size bytes : Nat) : Prop where
  ht : P.underlying t = some (.slice e)
  info : (P.info? e).map (fun i => (i.zero, i.size, i.bytes)) = some (some z, size, bytes)
  hzs : z.cells.size = size
  hsz : 0 < size
  hby : 0 < bytes

/-- The slice v is the call's own (its block is one from w's heap on), holds us, and nothing that lay has changed. -/
def Made (w w' : World) (e : TypeId) (v : Value) (us : List Value) : Prop := w'.ownsRow w.heap.size e 1 v us.length us ∧ Below w.heap.size w w'

/-- The call returns such a slice. -/
def RetMade (w : World) (e : TypeId) (us : List Value) (en : Ending) (w' : World) : Prop := ∃ v, en = .returned v ∧ Made w w' e v us

theorem retMade {w w' : World} {e : TypeId} {v : Value} {us us' : List Value} {n : Nat} (h : w'.ownsRow w.heap.size e 1 v n us') (hu : us' = us) (hb : Below w.heap.size w w') : RetMade w e us (.returned v) w' := by
  subst hu
  have hn : n = us'.length := by have := h.1; omega
  subst hn
  exact ⟨v, rfl, h, hb⟩

theorem wpList_app {P : Program} (w : World) {ops : Array Oper} {rest : List Oper} {o : Oper} {a : Act} {Q : Exit → Act → World → Prop} (hgd : o.guard = none) (s x : Operand) {t e : TypeId} {z : Value} {size bytes : Nat}
    (ho : o.op = .call { callee := .builtin .append, args := #[s, x], argTypes := #[t, t] })
    (E : Elem P t e z size bytes) (base : Nat)
    (v : Value) (n : Nat) (xs : List Value) (hs : a.eval s = v) (hown : w.ownsRow base e size v n xs)
    (y : Value) (m : Nat) (news : List Value) (hx : a.eval x = y) (hy : Rv w y m news) (hl : news.length = m * size) (h1 : ∀ u ∈ news, u.oneCell' = true)
    (hbytes : (n + m) * bytes ≤ 140737488355328) (hbase : base ≤ w.heap.size)
    (h : ∀ v' w', w'.ownsRow base e size v' (n + m) (xs ++ news) → w.grownBy w' v.ownBlock → (v' = .slice none 0 0 ↔ v = .slice none 0 0 ∧ m = 0) → wpList P ops Q rest (a.put o.dst v') w') : wpList P ops Q (o :: rest) a w := by
  obtain ⟨i, hi, hz, hsize, hby⟩ := info_parts E.info
  have hle : n + m ≤ (n + m) * bytes := Nat.le_mul_of_pos_right _ E.hby
  exact wpList_append_rd w hgd s x t ho base e i z size bytes E.ht hi hz hsize hby E.hzs E.hsz v n xs hs hown y m news hx hy hl h1 (by unfold maxLen; omega) hbytes hbase h

/-- A new block of one cell reads as one element. -/
theorem Rv.one (w : World) (x : Value) (e : TypeId) : Rv (w.alloc (.cells #[x] e)) (.slice (some ⟨w.heap.size, 0, none⟩) 1 1) 1 [x] := by
  refine ⟨_, _, rfl, Nat.le_refl _, by unfold maxLen; omega, (fun h => by cases h), .inr ⟨_, _, rfl, fun i u hi => ?_⟩⟩
  match i, hi with
  | 0, hi =>
    simp only [List.getElem?_cons_zero, Option.some.injEq] at hi
    subst hi
    simp

/-- A composite literal's block reads as its elements. -/
theorem Rv.lit (w : World) (us : List Value) (e : TypeId) (n : Nat) (hm : n ≤ maxLen) : Rv (w.alloc (.cells us.toArray e)) (.slice (some ⟨w.heap.size, 0, none⟩) n n) n us := by
  refine ⟨_, _, rfl, Nat.le_refl _, hm, (fun h => by cases h), .inr ⟨_, _, rfl, fun i u hi => ?_⟩⟩
  rw [Nat.zero_add, World.cell?_alloc_new]
  simpa using hi

theorem map_oneCell {α : Type} (f : α → Value) (hf : ∀ x, (f x).oneCell' = true) (l : List α) : ∀ u ∈ l.map f, u.oneCell' = true := by
  intro u hu
  obtain ⟨x, _, rfl⟩ := List.mem_map.1 hu
  exact hf x

/-- A byte, a number of 64 bits, as values. -/
def vB (b : UInt8) : Value := .int .u8 (b.toNat : Int)
def vU (x : BitVec 64) : Value := .int .u64 (x.toNat : Int)
theorem ones1 (x : Value) (h : x.oneCell' = true) : ∀ u ∈ [x], u.oneCell' = true := by
  intro u hu; rw [List.mem_singleton.1 hu]; exact h
theorem ones_I (l : List Int) : ∀ u ∈ l.map (Value.int .i64), u.oneCell' = true := map_oneCell _ (fun _ => rfl) l
theorem ones_B (l : List UInt8) : ∀ u ∈ l.map vB, u.oneCell' = true := map_oneCell _ (fun _ => rfl) l
theorem ones_U (l : List (BitVec 64)) : ∀ u ∈ l.map vU, u.oneCell' = true := map_oneCell _ (fun _ => rfl) l

theorem Rv.len {w : World} {v : Value} {n : Nat} {us : List Value} (h : Rv w v n us) : n ≤ maxLen := by
  obtain ⟨_, _, h1, h2, h3, _⟩ := h; exact Nat.le_trans h2 h3

theorem Made.rv {w w' : World} {e : TypeId} {v : Value} {us : List Value} (h : Made w w' e v us) : Rv w' v us.length us := Rv.of_own h.1

theorem Made.opened {w w' : World} {e : TypeId} {v : Value} {us : List Value} (h : Made w w' e v us) : ∃ n ao cap, Hid (n = us.length) ∧ v = .slice ao n cap ∧ n ≤ cap ∧ Rd w' ao us := by
  obtain ⟨ao, cap, h1, h2, h3⟩ := h.rv.opened
  exact ⟨_, ao, cap, rfl, h1, h2, h3⟩

/-- The first elements, at one cell an element. -/
theorem Rv.firsts {w : World} {v : Value} {us : List Value} {n : Nat} (h : Rv w v n us) (k : Nat) (hk : k ≤ n) :
    ∃ ao cap, v = .slice ao n cap ∧ n ≤ cap ∧ ∀ k', k' = k → Rv w (.slice ao k' cap) k' (us.take k) := by
  obtain ⟨ao, cap, rfl, h3, h4, h5, h6⟩ := h
  refine ⟨ao, cap, rfl, h3, ?_⟩
  rintro k' rfl
  exact ⟨_, _, rfl, by omega, h4, h5, h6.take _⟩

/-- The value of a slice expression over what can be read. -/
theorem Rv.sliced {w : World} {v : Value} {n : Nat} {us : List Value} (h : Rv w v n us) (size l hi : Nat) (h1 : l ≤ hi) (h2 : hi ≤ n) :
    ∃ ao cap, v = .slice ao n cap ∧ n ≤ cap ∧ Rv w (.slice (if cap = l then ao else ao.map (·.add (l * size))) (hi - l) (cap - l)) (hi - l) ((us.drop (l * size)).take ((hi - l) * size)) := by
  obtain ⟨ao, cap, rfl, h3, h4, h5, h6⟩ := h
  refine ⟨ao, cap, rfl, h3, _, cap - l, rfl, by omega, by omega, ?_, ?_⟩
  · intro hn
    split at hn
    · omega
    · have := h5 (by simpa using hn); omega
  · by_cases hc : cap = l
    · have : hi - l = 0 := by omega
      rw [this, Nat.zero_mul]
      exact .inl (by simp)
    · rw [if_neg hc]
      exact (h6.drop _).take _

theorem Rv.of_cells {w : World} {g n cap : Nat} {us : List Value} (hn : n ≤ cap) (hc : cap ≤ maxLen) (h : ∀ i u, us[i]? = some u → w.cell? ⟨g, i, none⟩ = some u) :
    Rv w (.slice (some ⟨g, 0, none⟩) n cap) n us :=
  ⟨_, _, rfl, hn, hc, (fun h => by cases h), .inr ⟨g, 0, rfl, fun i u hi => by rw [Nat.zero_add]; exact h i u hi⟩⟩

section
variable {P : Program} (w : World)
/-- '[]byte(s)': new memory that reads as s's bytes. -/
theorem run_tobytes (src dst e : TypeId) (s : ByteArray) (hs : P.underlying src = some .string) (hd : P.underlying dst = some (.slice e)) (he : P.underlying e = some (.int .u8)) (hm : s.size ≤ maxLen) :
    ∃ v' w', (convert src dst (.string s)).run P w = .ok v' w' ∧ Rv w' v' s.data.toList.length (s.data.toList.map vB) ∧ Below w.heap.size w w' := by
  have hlen : s.data.toList.length = s.size := by simp
  refine ⟨_, _, run_bytes_of_string w src dst e s hs hd he, ?_, ((Below.refl _ w).drew).alloc (Nat.le_refl _) _⟩
  rw [hlen]
  refine Rv.of_cells (grownCap_ge _ _ _ _) (grownCap_le_maxLen _ _ _ _ hm) fun i u hi => ?_
  have h := World.cell?_alloc_mark w.drew (bytesRow s (grownCap w s.size 0 e)) e ((bytesRow s (grownCap w s.size 0 e)).size, (bytesRow s (grownCap w s.size 0 e)).size + 1) i
  refine h.trans ?_
  rw [List.getElem?_map] at hi
  have hlt : i < s.data.size := by
    by_cases h : i < s.data.size
    · exact h
    · rw [List.getElem?_eq_none (by simpa using h)] at hi; cases hi
  rw [bytesRow, Array.getElem?_append_left (by simpa using hlt), Array.getElem?_map]
  simpa [vB] using hi

theorem wpList_tobytes {ops : Array Oper} {rest : List Oper} {o : Oper} {a : Act} {Q : Exit → Act → World → Prop} (hgd : o.guard = none) {src dst e : TypeId} (x : Operand)
    (ho : o.op = .convert src dst x) (s : ByteArray) (hx : a.eval x = .string s) (hs : P.underlying src = some .string) (hd : P.underlying dst = some (.slice e)) (he : P.underlying e = some (.int .u8)) (hm : s.size ≤ maxLen)
    (h : ∀ v' w', Rv w' v' s.data.toList.length (s.data.toList.map vB) → Below w.heap.size w w' → wpList P ops Q rest (a.put o.dst v') w') : wpList P ops Q (o :: rest) a w := by
  obtain ⟨v', w', hr, h2, h3⟩ := run_tobytes (P := P) w src dst e s hs hd he hm
  refine wpList_plain hgd fun K hK => ?_
  unfold Oper.wp
  simp [execOp, ho, hx, hr, Result.andThen]
  exact hK _ _ (h v' w' h2 h3)
end

theorem rowI {w : World} {a : Option Addr} {len cap : Nat} {zs : List Int}
    (h : (a = none ∧ len = 0 ∧ cap = 0 ∧ zs = []) ∨ ∃ x, a = some x ∧ len ≤ cap ∧ cap ≤ maxLen ∧ zs.length = cap ∧ (∀ i, i < zs.length → w.cell? (x.add i) = some (.int .i64 (zs.getD i 0))) ∧ ∀ n ∈ zs, (Lit.int .i64 n).wf = true) :
    ∃ xs : List Int, xs.length = len ∧ (∀ n ∈ xs, -9223372036854775808 ≤ n ∧ n ≤ 9223372036854775807) ∧ Rv w (.slice a len cap) len (xs.map (Value.int .i64)) := by
  rcases h with ⟨rfl, rfl, rfl, rfl⟩ | ⟨x, rfl, hl, hc, hz, hcell, hwf⟩
  · exact ⟨[], rfl, by simp, none, 0, rfl, Nat.le_refl _, by simp, fun _ => rfl, Rd.nil _ _⟩
  · refine ⟨zs.take len, by simp; omega, ?_, _, cap, rfl, hl, hc, (fun h => by cases h), ?_⟩
    · intro n hn
      have := hwf n (List.mem_of_mem_take hn)
      simp only [Lit.wf, IntKind.min, IntKind.max, IntKind.signed, IntKind.bits, Bool.and_eq_true, decide_eq_true_eq] at this
      simp at this
      omega
    · by_cases h0 : len = 0
      · exact .inl (by simp [h0])
      · refine .inr ?_
        have hx : x.spot = none := by
          have h := hcell 0 (by omega)
          unfold World.cell? Addr.add at h
          simp only [↓reduceIte] at h
          cases hs : x.spot with
          | none => rfl
          | some q =>
            rw [hs] at h
            split at h
            · simp at h
            · cases h
        obtain ⟨b, off, sp⟩ := x
        simp only at hx
        subst hx
        refine ⟨b, off, rfl, fun i u hi => ?_⟩
        rw [List.getElem?_map, List.getElem?_take] at hi
        split at hi
        · rename_i hil
          have h := hcell i (by omega)
          rw [show (({ block := b, off := off, spot := none } : Addr).add i) = ⟨b, off + i, none⟩ from by unfold Addr.add; split <;> simp_all] at h
          rw [h]
          have : zs[i]? = some (zs.getD i 0) := by
            rw [List.getD_eq_getElem?_getD, List.getElem?_eq_getElem (by omega)]; rfl
          rw [this] at hi
          simpa using hi
        · cases hi

theorem rowB {w : World} {a : Option Addr} {len cap : Nat} {zs : List Int}
    (h : (a = none ∧ len = 0 ∧ cap = 0 ∧ zs = []) ∨ ∃ x, a = some x ∧ len ≤ cap ∧ cap ≤ maxLen ∧ zs.length = cap ∧ (∀ i, i < zs.length → w.cell? (x.add i) = some (.int .u8 (zs.getD i 0))) ∧ ∀ n ∈ zs, (Lit.int .u8 n).wf = true) :
    ∃ bs : List UInt8, bs.length = len ∧ Rv w (.slice a len cap) len (bs.map vB) := by
  rcases h with ⟨rfl, rfl, rfl, rfl⟩ | ⟨x, rfl, hl, hc, hz, hcell, hwf⟩
  · exact ⟨[], rfl, none, 0, rfl, Nat.le_refl _, by simp, fun _ => rfl, Rd.nil _ _⟩
  · refine ⟨(zs.take len).map (fun n => UInt8.ofNat n.toNat), by simp; omega, _, cap, rfl, hl, hc, (fun h => by cases h), ?_⟩
    by_cases h0 : len = 0
    · exact .inl (by simp [h0])
    · refine .inr ?_
      have hx : x.spot = none := by
        have h := hcell 0 (by omega)
        unfold World.cell? Addr.add at h
        simp only [↓reduceIte] at h
        cases hs : x.spot with
        | none => rfl
        | some q =>
          rw [hs] at h
          split at h
          · simp at h
          · cases h
      obtain ⟨b, off, sp⟩ := x
      simp only at hx
      subst hx
      refine ⟨b, off, rfl, fun i u hi => ?_⟩
      rw [List.map_map, List.getElem?_map, List.getElem?_take] at hi
      split at hi
      · rename_i hil
        have h := hcell i (by omega)
        rw [show (({ block := b, off := off, spot := none } : Addr).add i) = ⟨b, off + i, none⟩ from by unfold Addr.add; split <;> simp_all] at h
        rw [h]
        have hz1 : zs[i]? = some (zs.getD i 0) := by
          rw [List.getD_eq_getElem?_getD, List.getElem?_eq_getElem (by omega)]; rfl
        have hw := hwf (zs.getD i 0) (List.mem_of_getElem? hz1)
        simp only [Lit.wf, IntKind.min, IntKind.max, IntKind.signed, IntKind.bits, Bool.and_eq_true] at hw
        simp at hw
        rw [hz1] at hi
        simp only [Option.map_some, Function.comp_apply, vB, Option.some.injEq] at hi
        rw [← hi]
        congr 2
        simp
        omega
      · cases hi

/-- An owned row that is not empty: its block, its cells, and what a store leaves. -/
theorem own_open {w : World} {base : Nat} {e : TypeId} {v : Value} {n : Nat} {xs : List Value} (h : w.ownsRow base e 1 v (n + 1) xs) :
    ∃ g cap, v = .slice (some ⟨g, 0, none⟩) (n + 1) cap ∧ base ≤ g ∧ n + 1 ≤ cap ∧ (∀ j, j < n + 1 → w.cell? ⟨g, j, none⟩ = xs[j]?) ∧ (∀ j, w.frozen? ⟨g, j, none⟩ = false) := by
  have h' := h
  obtain ⟨hl, h | ⟨g, cap, cur, rfl, hb, hg, hn, hc, hs, ht⟩⟩ := h
  · omega
  · exact ⟨g, cap, rfl, hb, hn, fun j hj => h'.cellAt j (by omega), fun j => h'.frozenAt j⟩

theorem wfI {n : Int} (h : (Lit.int .i64 n).wf = true) : -9223372036854775808 ≤ n ∧ n ≤ 9223372036854775807 := by
  simp only [Lit.wf, IntKind.min, IntKind.max, IntKind.signed, IntKind.bits, Bool.and_eq_true] at h
  simp at h
  omega
theorem wfB {n : Int} (h : (Lit.int .u8 n).wf = true) : Value.int .u8 n = .int .u8 ((UInt8.ofNat n.toNat).toNat : Int) := by
  simp only [Lit.wf, IntKind.min, IntKind.max, IntKind.signed, IntKind.bits, Bool.and_eq_true] at h
  simp at h
  congr 1
  simp
  omega

theorem own_below {w w' : World} {base : Nat} {e : TypeId} {size : Nat} {v : Value} {n : Nat} {xs : List Value} (h : w.ownsRow base e size v n xs) (hb : Below w.heap.size w w') : w'.ownsRow base e size v n xs := by
  obtain ⟨hl, h | ⟨g, cap, cur, rfl, hb1, hg, hn, hc, hs, ht⟩⟩ := h
  · exact ⟨hl, .inl h⟩
  · exact ⟨hl, .inr ⟨g, cap, cur, rfl, hb1, (hb.block g (Array.getElem?_eq_some_iff.1 hg).1).trans hg, hn, hc, hs, ht⟩⟩

/-- 'string(b)'. -/
theorem run_tostring {P : Program} (w : World) (src dst e : TypeId) (hs : P.underlying src = some (.slice e)) (he : P.underlying e = some (.int .u8)) (hd : P.underlying dst = some .string)
    (v : Value) (bs : List UInt8) (hv : Rv w v bs.length (bs.map vB)) : (convert src dst v).run P w = .ok (.string ⟨bs.toArray⟩) w := by
  obtain ⟨ao, cap, rfl, h1, h2, h3, h4⟩ := hv
  by_cases h0 : bs = []
  · subst h0
    cases ao with
    | none => exact run_convert_bytes_nil (P := P) w src e hs he _ _ dst hd
    | some a =>
      have := run_convert_bytes_back (P := P) w src dst e a cap [] hs he hd (fun j hj => by simp at hj)
      exact this
  · rcases h4 with h4 | ⟨b, off, rfl, hc⟩
    · simp at h4; exact absurd h4 h0
    · refine run_convert_bytes_back (P := P) w src dst e _ cap bs hs he hd (fun j hj => ?_)
      rw [show ((⟨b, off, none⟩ : Addr).add j) = ⟨b, off + j, none⟩ from by unfold Addr.add; split <;> simp_all]
      exact hc j _ (by rw [List.getElem?_map, List.getElem?_eq_getElem hj]; rfl)

/-- Where the slice that append hands back lies: where it lay, or in a new block. -/
def SameOrNew (w : World) (v v' : Value) : Prop := v'.ownBlock = v.ownBlock ∨ ∀ g, v'.ownBlock = some g → w.heap.size ≤ g

theorem own_base {w : World} {base base' : Nat} {e : TypeId} {size : Nat} {v : Value} {n : Nat} {xs : List Value} (h : w.ownsRow base e size v n xs) (hb : base' ≤ base) : w.ownsRow base' e size v n xs := by
  obtain ⟨hl, h | ⟨g, cap, cur, rfl, hb1, hg, hn, hc, hs, ht⟩⟩ := h
  · exact ⟨hl, .inl h⟩
  · exact ⟨hl, .inr ⟨g, cap, cur, rfl, Nat.le_trans hb hb1, hg, hn, hc, hs, ht⟩⟩

section
variable {P : Program} (w : World)
theorem run_append_rd2 (base : Nat) (t ty e : TypeId) (i : TypeInfo) (z : Value) (size bytes : Nat) (ht : P.underlying t = some (.slice e)) (hi : P.info? e = some i) (hz : i.zero = some z)
    (hsize : i.size = size) (hby : i.bytes = bytes) (hzs : z.cells.size = size) (hsz : 0 < size)
    (v : Value) (n : Nat) (xs : List Value) (hown : w.ownsRow base e size v n xs)
    (y : Value) (m : Nat) (news : List Value) (hy : Rv w y m news) (hl : news.length = m * size) (h1 : ∀ u ∈ news, u.oneCell' = true)
    (h63 : n + m ≤ maxLen) (hbytes : (n + m) * bytes ≤ 140737488355328) (hbase : base ≤ w.heap.size) :
    ∃ v' w', (Builtin.append_ #[t, t] ty #[v, y]).run P w = .ok v' w' ∧ w'.ownsRow base e size v' (n + m) (xs ++ news) ∧ w.grownBy w' v.ownBlock ∧ SameOrNew w v v' := by
  obtain ⟨ao, cap, rfl, hmc, hcm, hnone, hrd⟩ := hy
  rcases ao with _ | a
  · have hc0 := hnone rfl
    have hm0 : m = 0 := by omega
    subst hc0; subst hm0
    have hn : news = [] := List.eq_nil_of_length_eq_zero (by simpa using hl)
    subst hn
    exact ⟨v, w, run_append_owned_none w base t ty e i size ht hi v n xs hown, by simpa using hown, World.grownBy.refl _ _, .inl rfl⟩
  · have hnews : ∀ j u, news[j]? = some u → w.cell? (a.add j) = some u := by
      intro j u hj
      obtain ⟨b, off, ha, hc⟩ := hrd.cell hj
      obtain rfl : a = ⟨b, off, none⟩ := by simpa using ha
      rw [show ((⟨b, off, none⟩ : Addr).add j) = ⟨b, off + j, none⟩ from by unfold Addr.add; split <;> simp_all]
      exact hc
    have hown0 := hown
    rcases hown.2 with ⟨rfl, rfl⟩ | ⟨g, cap0, cur, rfl, hbg, hg, hnc, hcm0, hcs, htake⟩
    · have hx : xs = [] := List.eq_nil_of_length_eq_zero (by simpa using hown.1)
      subst hx
      obtain ⟨v', w', hr, h2, h3, _⟩ := run_append_own (P := P) w w.heap.size t ty e i z size bytes ht hi hz hsize hby hzs hsz (.slice none 0 0) 0 [] (World.ownsRow_nil w _ e size) a m cap news hl hnews h1 h63 hbytes (Nat.le_refl _)
      exact ⟨v', w', hr, own_base h2 hbase, h3, .inr fun g hg => (h2.lt g hg).1⟩
    · by_cases hroom : n + m ≤ cap0
      · obtain ⟨w', hr, h2, h3⟩ := run_append_fits (P := P) w base t ty e i size ht hi hsize g n cap0 xs hown0 a m cap news hl hnews h1 hroom
        exact ⟨_, w', hr, h2, h3, .inl rfl⟩
      · have holds : ∀ j u, xs[j]? = some u → w.cell? ((⟨g, 0, none⟩ : Addr).add j) = some u := hown0.cells (g := g) rfl
        obtain ⟨v', w', hr, h2, h3⟩ := run_append_arg_grows (P := P) w t ty e i z size bytes ht hi hz hsize hby hzs hsz ⟨g, 0, none⟩ n cap0 xs hown.1 holds a m cap news hl hnews (by omega) h63 hbytes
        exact ⟨v', w', hr, own_base h2 hbase, ⟨h3.os, h3.tape, h3.output, h3.size, fun k hk _ => h3.block k hk (by simp)⟩, .inr fun g hg => (h2.lt g hg).1⟩

theorem wpList_app2 {ops : Array Oper} {rest : List Oper} {o : Oper} {a : Act} {Q : Exit → Act → World → Prop} (hgd : o.guard = none) (s x : Operand) {t e : TypeId} {z : Value} {size bytes : Nat}
    (ho : o.op = .call { callee := .builtin .append, args := #[s, x], argTypes := #[t, t] })
    (E : Elem P t e z size bytes) (base : Nat)
    (v : Value) (n : Nat) (xs : List Value) (hs : a.eval s = v) (hown : w.ownsRow base e size v n xs)
    (y : Value) (m : Nat) (news : List Value) (hx : a.eval x = y) (hy : Rv w y m news) (hl : news.length = m * size) (h1 : ∀ u ∈ news, u.oneCell' = true)
    (hbytes : (n + m) * bytes ≤ 140737488355328) (hbase : base ≤ w.heap.size)
    (h : ∀ v' w', w'.ownsRow base e size v' (n + m) (xs ++ news) → w.grownBy w' v.ownBlock → SameOrNew w v v' → wpList P ops Q rest (a.put o.dst v') w') : wpList P ops Q (o :: rest) a w := by
  obtain ⟨i, hi, hz, hsize, hby⟩ := info_parts E.info
  have hle : n + m ≤ (n + m) * bytes := Nat.le_mul_of_pos_right _ E.hby
  refine wpList_plain hgd fun K hK => ?_
  obtain ⟨v', w', hr, h2, h3, h4⟩ := run_append_rd2 (P := P) w base t o.type e i z size bytes E.ht hi hz hsize hby E.hzs E.hsz v n xs hown y m news hy hl h1 (by unfold maxLen; omega) hbytes hbase
  unfold Oper.wp execOp
  simp only [ho, resolve, invoke, builtin, Sem.run_bind, Sem.run_pure, Result.andThen_ok, List.map_toArray, List.map_cons, List.map_nil, hs, hx, hr]
  exact hK _ _ (h v' w' h2 h3 h4)
end

theorem own_k {w : World} {base : Nat} {e : TypeId} {size : Nat} {ao : Option Addr} {k cap n : Nat} {xs : List Value} (h : w.ownsRow base e size (.slice ao k cap) n xs) : k = n := by
  obtain ⟨_, _, e, _⟩ := Rv.of_own h
  cases e; rfl
theorem own_shape {w : World} {base : Nat} {e : TypeId} {size : Nat} {v : Value} {n : Nat} {xs : List Value} (h : w.ownsRow base e size v n xs) : ∃ k ao cap, v = .slice ao k cap := by
  obtain ⟨ao, cap, rfl, _, _⟩ := (Rv.of_own h).opened
  exact ⟨_, _, _, rfl⟩

end Go.Proofs.Ytpehnggglolnoaa
