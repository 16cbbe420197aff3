/- Maps keyed by int, whatever their elements: what a map holds, as a function; look-up, store, delete, len, range. Program-independent. -/
import Derived.Test.YtpehnggglolnoaaLib
import Derived.Maps.RangeRun
import Derived.Laws.IdiomRangeMap
namespace Go.Proofs.Ytpehnggglolnoaa
open Go.RowKit Go.ChangeMaps

def keyI (e : MapEntry) : Int := match e.key with
  | .int _ x => x
  | _ => 0

/-- Block b is a map with the keys ks, in the order in which they came, that holds F. -/
structure MapF (w : World) (b : Nat) (F : Int → Option Value) (ks : List Int) : Prop where
  ex : ∃ (arr : Array MapEntry) (clock : Nat), w.heap[b]? = some (.map arr clock) ∧ (∀ e ∈ arr.toList, e.key = .int .i64 (keyI e)) ∧ arr.toList.map keyI = ks ∧ ks.Nodup ∧
    (∀ e ∈ arr.toList, F (keyI e) = some e.val) ∧ (∀ k, k ∉ ks → F k = none) ∧ (arr.toList.map (·.born)).Nodup ∧ ∀ e ∈ arr.toList, e.born < clock

theorem MapF.lt {w : World} {b : Nat} {F : Int → Option Value} {ks : List Int} (h : MapF w b F ks) : b < w.heap.size := by
  obtain ⟨arr, clock, hb, _⟩ := h.ex
  exact (Array.getElem?_eq_some_iff.1 hb).1
theorem MapF.kept {w w' : World} {b : Nat} {F : Int → Option Value} {ks : List Int} (h : MapF w b F ks) (hb : w'.heap[b]? = w.heap[b]?) : MapF w' b F ks := by
  obtain ⟨arr, clock, h1, h2⟩ := h.ex
  exact ⟨arr, clock, hb.trans h1, h2⟩
theorem MapF.mem {w : World} {b : Nat} {F : Int → Option Value} {ks : List Int} (h : MapF w b F ks) (k : Int) : k ∈ ks ↔ ∃ v, F k = some v := by
  obtain ⟨arr, clock, hb, hk, rfl, hn, hF, hN, _⟩ := h.ex
  constructor
  · intro hm
    obtain ⟨e, he, rfl⟩ := List.mem_map.1 hm
    exact ⟨_, hF e he⟩
  · rintro ⟨v, hv⟩
    by_cases hm : k ∈ arr.toList.map keyI
    · exact hm
    · rw [hN k hm] at hv; cases hv
theorem MapF.nodup {w : World} {b : Nat} {F : Int → Option Value} {ks : List Int} (h : MapF w b F ks) : ks.Nodup := by
  obtain ⟨arr, clock, hb, hk, e, hn, _⟩ := h.ex
  exact hn
theorem MapF.new (w : World) : MapF (w.alloc (.map #[] 0)) w.heap.size (fun _ => none) [] :=
  ⟨#[], 0, heap_alloc_new w _, by simp, rfl, List.nodup_nil, by simp, by simp, by simp, by simp⟩

theorem findNow_none (k : Int) : ∀ (l : List MapEntry) (i : Nat), (∀ e ∈ l, e.key = .int .i64 (keyI e)) → (∀ e ∈ l, keyI e ≠ k) → Instr.findNow (.int .i64) (.int .i64 k) l i = some none
  | [], _, _, _ => rfl
  | e :: l, i, hk, hn => by
    have h1 := hk e (by simp)
    have h2 : (k == keyI e) = false := beq_eq_false_iff_ne.2 (fun h => hn e (by simp) h.symm)
    rw [Instr.findNow, h1, Instr.sameNow]
    simp only [if_true, h2]
    exact findNow_none k l (i + 1) (fun x hx => hk x (by simp [hx])) (fun x hx => hn x (by simp [hx]))
theorem findNow_some (k : Int) (e : MapEntry) (l2 : List MapEntry) : ∀ (l1 : List MapEntry) (i : Nat), (∀ x ∈ l1, x.key = .int .i64 (keyI x)) → (∀ x ∈ l1, keyI x ≠ k) → e.key = .int .i64 k →
    Instr.findNow (.int .i64) (.int .i64 k) (l1 ++ e :: l2) i = some (some (i + l1.length, e.val))
  | [], i, _, _, he => by
    rw [List.nil_append, Instr.findNow, he, Instr.sameNow]
    simp
  | x :: l, i, hk, hn, he => by
    have h1 := hk x (by simp)
    have h2 : (k == keyI x) = false := beq_eq_false_iff_ne.2 (fun h => hn x (by simp) h.symm)
    rw [List.cons_append, Instr.findNow, h1, Instr.sameNow]
    simp only [if_true, h2]
    rw [findNow_some k e l2 l (i + 1) (fun y hy => hk y (by simp [hy])) (fun y hy => hn y (by simp [hy])) he, List.length_cons]
    congr 3
    omega

section
variable {P : Program} {w : World} {b : Nat} {F : Int → Option Value} {ks : List Int} {t K e : TypeId}

theorem isKeyI (k : Int) : MapKept.IsKey (.int .i64) (.int .i64 k) := by simp [MapKept.IsKey]

theorem modify_mid {α : Type} (l1 : List α) (x : α) (l2 : List α) (f : α → α) : (l1 ++ x :: l2).modify l1.length f = l1 ++ f x :: l2 := by
  induction l1 with
  | nil => rfl
  | cons y l1 ih => rw [List.cons_append, List.length_cons, List.modify_succ_cons, ih, List.cons_append]
/-- Where a key is. -/
theorem split_key {l : List MapEntry} {k : Int} (h : k ∈ l.map keyI) (hn : (l.map keyI).Nodup) : ∃ l1 e l2, l = l1 ++ e :: l2 ∧ keyI e = k ∧ (∀ x ∈ l1, keyI x ≠ k) ∧ ∀ x ∈ l2, keyI x ≠ k := by
  obtain ⟨e, he, hk⟩ := List.mem_map.1 h
  obtain ⟨l1, l2, rfl⟩ := List.append_of_mem he
  subst hk
  rw [List.map_append, List.map_cons, List.nodup_append] at hn
  obtain ⟨_, h2, h3⟩ := hn
  rw [List.nodup_cons] at h2
  refine ⟨l1, e, l2, rfl, rfl, fun x hx heq => ?_, fun x hx heq => ?_⟩
  · exact h3 _ (List.mem_map_of_mem hx) _ (by simp) heq
  · exact h2.1 (List.mem_map.2 ⟨x, hx, heq⟩)

/-- 'm[k]', with and without 'ok'. -/
theorem MapF.lookup (h : MapF w b F ks) (ht : P.underlying t = some (.map K e)) (hK : P.underlying K = some (.int .i64)) {z : Value} (hz : (zeroValue e).run P w = .ok z w) (k : Int) (ok : Bool) :
    (Instr.lookup t (.map (some b)) (.int .i64 k) ok).run P w = .ok (if ok then .tuple #[(F k).getD z, .bool (F k).isSome] else (F k).getD z) w := by
  obtain ⟨arr, clock, hb, hk, rfl, hn, hF, hN, _⟩ := h.ex
  by_cases hm : k ∈ arr.toList.map keyI
  · obtain ⟨l1, x, l2, hl, hx, h1, h2⟩ := split_key hm hn
    have hxm : x ∈ arr.toList := by rw [hl]; simp
    have hfind := findNow_some k x l2 l1 0 (fun y hy => hk y (by rw [hl]; simp [hy])) h1 (by rw [hk x hxm, hx])
    rw [← hl] at hfind
    have hFk : F k = some x.val := by rw [← hx]; exact hF x hxm
    cases ok <;> simp [Instr.lookup, run_underlying ht, MapKept.run_getObj_map hb, MapKept.run_checkKey hK (isKeyI k), MapKept.run_findKey hK hfind, Result.andThen, hFk]
  · have hfind := findNow_none k arr.toList 0 hk (fun y hy heq => hm (List.mem_map.2 ⟨y, hy, heq⟩))
    cases ok <;> simp [Instr.lookup, run_underlying ht, MapKept.run_getObj_map hb, MapKept.run_checkKey hK (isKeyI k), MapKept.run_findKey hK hfind, Result.andThen, hN k hm, hz]

/-- 'm[k] = v'. -/
theorem MapF.update (h : MapF w b F ks) (ht : P.underlying t = some (.map K e)) (hK : P.underlying K = some (.int .i64)) (k : Int) (v : Value) :
    ∃ w', (Instr.mapUpdate t (.map (some b)) (.int .i64 k) v).run P w = .ok () w' ∧ MapF w' b (fun x => if x = k then some v else F x) (if k ∈ ks then ks else ks ++ [k]) ∧ w.grownBy w' (some b) ∧ w'.heap.size = w.heap.size := by
  obtain ⟨arr, clock, hb, hk, rfl, hn, hF, hN, hs, hc⟩ := h.ex
  have hlt := (Array.getElem?_eq_some_iff.1 hb).1
  have hput : ∀ o : Obj, w.grownBy (setBlock w b o) (some b) ∧ (setBlock w b o).heap.size = w.heap.size ∧ (setBlock w b o).heap[b]? = some o := fun o =>
    ⟨⟨rfl, rfl, rfl, by simp [setBlock], fun i _ hi => heap_setBlock_other hb _ (fun e => hi (by rw [e]))⟩, by simp [setBlock], heap_setBlock_same hb _⟩
  by_cases hm : k ∈ arr.toList.map keyI
  · obtain ⟨l1, x, l2, hl, hx, h1, h2⟩ := split_key hm hn
    have hxm : x ∈ arr.toList := by rw [hl]; simp
    have hkx := hk x hxm
    rw [hx] at hkx
    have hfind := findNow_some k x l2 l1 0 (fun y hy => hk y (by rw [hl]; simp [hy])) h1 hkx
    rw [← hl, Nat.zero_add] at hfind
    have hat : arr[l1.length]? = some x := by rw [← Array.getElem?_toList, hl]; simp
    have hmod : (arr.modify l1.length fun e => { e with key := .int .i64 k, val := v }).toList = l1 ++ { x with key := .int .i64 k, val := v } :: l2 := by
      rw [Array.toList_modify, hl]; exact modify_mid l1 x l2 _
    refine ⟨setBlock w b (.map (arr.modify l1.length fun e => { e with key := .int .i64 k, val := v }) clock), ?_, ?_, (hput _).1, (hput _).2.1⟩
    · simp [Instr.mapUpdate, run_underlying ht, MapKept.run_getObj_map hb, MapKept.run_checkKey hK (isKeyI k), MapKept.run_findKey hK hfind, Result.andThen, hat, hkx, MapKept.run_keyThatStays (isKeyI k), MapKept.run_setObj_map _ hb, setBlock]
    · rw [if_pos hm]
      have hkm : (l1 ++ { x with key := .int .i64 k, val := v } :: l2).map keyI = arr.toList.map keyI := by
        rw [hl]; simp [keyI, hkx]
      refine ⟨_, clock, (hput _).2.2, ?_, by rw [hmod]; exact hkm, hn, ?_, ?_, ?_, ?_⟩
      · intro y hy
        rw [hmod] at hy
        rcases List.mem_append.1 hy with hy | hy
        · exact hk y (by rw [hl]; simp [hy])
        · rcases List.mem_cons.1 hy with rfl | hy
          · rfl
          · exact hk y (by rw [hl]; simp [hy])
      · intro y hy
        rw [hmod] at hy
        rcases List.mem_append.1 hy with hy | hy
        · rw [if_neg (h1 y hy)]; exact hF y (by rw [hl]; simp [hy])
        · rcases List.mem_cons.1 hy with rfl | hy
          · rw [if_pos (by rfl)]
          · rw [if_neg (h2 y hy)]; exact hF y (by rw [hl]; simp [hy])
      · intro y hy
        rw [if_neg (fun e => hy (by rw [e]; exact hm))]
        exact hN y hy
      · rw [hmod]; rw [hl] at hs; simpa using hs
      · intro y hy
        rw [hmod] at hy
        rcases List.mem_append.1 hy with hy | hy
        · exact hc y (by rw [hl]; simp [hy])
        · rcases List.mem_cons.1 hy with rfl | hy
          · exact hc x hxm
          · exact hc y (by rw [hl]; simp [hy])
  · have hfind := findNow_none k arr.toList 0 hk (fun y hy heq => hm (List.mem_map.2 ⟨y, hy, heq⟩))
    refine ⟨setBlock w b (.map (arr.push { key := .int .i64 k, val := v, born := clock }) (clock + 1)), ?_, ?_, (hput _).1, (hput _).2.1⟩
    · simp [Instr.mapUpdate, run_underlying ht, MapKept.run_getObj_map hb, MapKept.run_checkKey hK (isKeyI k), MapKept.run_findKey hK hfind, Result.andThen, MapKept.run_setObj_map _ hb, setBlock]
    · rw [if_neg hm]
      refine ⟨_, clock + 1, (hput _).2.2, ?_, by simp [keyI], ?_, ?_, ?_, ?_, ?_⟩
      · intro y hy
        rw [Array.toList_push] at hy
        rcases List.mem_append.1 hy with hy | hy
        · exact hk y hy
        · rw [List.mem_singleton.1 hy]; rfl
      · rw [List.nodup_append]
        exact ⟨hn, by simp, fun a ha c hc heq => by rw [List.mem_singleton.1 hc] at heq; exact hm (heq ▸ ha)⟩
      · intro y hy
        rw [Array.toList_push] at hy
        rcases List.mem_append.1 hy with hy | hy
        · rw [if_neg (fun heq => hm (List.mem_map.2 ⟨y, hy, heq⟩))]; exact hF y hy
        · rw [List.mem_singleton.1 hy, if_pos (by rfl)]
      · intro y hy
        simp only [List.mem_append, List.mem_singleton, not_or] at hy
        rw [if_neg hy.2]; exact hN y hy.1
      · rw [Array.toList_push, List.map_append, List.nodup_append]
        refine ⟨hs, by simp, fun a ha c hcc heq => ?_⟩
        obtain ⟨y, hy, rfl⟩ := List.mem_map.1 ha
        simp only [List.map_cons, List.map_nil, List.mem_singleton] at hcc
        have := hc y hy
        omega
      · intro y hy
        rw [Array.toList_push] at hy
        rcases List.mem_append.1 hy with hy | hy
        · have := hc y hy; omega
        · rw [List.mem_singleton.1 hy]; exact Nat.lt_succ_self _

/-- 'delete(m, k)'. -/
theorem MapF.drop (h : MapF w b F ks) (ht : P.underlying t = some (.map K e)) (hK : P.underlying K = some (.int .i64)) (ty : TypeId) (k : Int) :
    ∃ w', (Builtin.delete_ #[t, K] ty #[.map (some b), .int .i64 k]).run P w = .ok (.tuple #[]) w' ∧ MapF w' b (fun x => if x = k then none else F x) (ks.erase k) ∧ w.grownBy w' (some b) ∧ w'.heap.size = w.heap.size := by
  obtain ⟨arr, clock, hb, hk, rfl, hn, hF, hN, hs, hc⟩ := h.ex
  have hput : ∀ o : Obj, w.grownBy (setBlock w b o) (some b) ∧ (setBlock w b o).heap.size = w.heap.size ∧ (setBlock w b o).heap[b]? = some o := fun o =>
    ⟨⟨rfl, rfl, rfl, by simp [setBlock], fun i _ hi => heap_setBlock_other hb _ (fun e => hi (by rw [e]))⟩, by simp [setBlock], heap_setBlock_same hb _⟩
  by_cases hm : k ∈ arr.toList.map keyI
  · obtain ⟨l1, x, l2, hl, hx, h1, h2⟩ := split_key hm hn
    have hxm : x ∈ arr.toList := by rw [hl]; simp
    have hkx := hk x hxm
    rw [hx] at hkx
    have hfind := findNow_some k x l2 l1 0 (fun y hy => hk y (by rw [hl]; simp [hy])) h1 hkx
    rw [← hl, Nat.zero_add] at hfind
    have her : (arr.eraseIdxIfInBounds l1.length).toList = l1 ++ l2 := by
      have hlt : l1.length < arr.size := by rw [← Array.length_toList, hl]; simp
      rw [Array.eraseIdxIfInBounds, dif_pos hlt, Array.toList_eraseIdx, hl, List.eraseIdx_append_of_length_le (Nat.le_refl _)]
      simp
    have hke : (l1 ++ l2).map keyI = (arr.toList.map keyI).erase k := by
      have hnm : k ∉ l1.map keyI := fun hh => by
        obtain ⟨y, hy, he⟩ := List.mem_map.1 hh
        exact h1 y hy he
      rw [hl, List.map_append, List.map_append, List.map_cons, hx, List.erase_append_right _ hnm, List.erase_cons_head]
    refine ⟨setBlock w b (.map (arr.eraseIdxIfInBounds l1.length) clock), ?_, ?_, (hput _).1, (hput _).2.1⟩
    · simp [Builtin.delete_, run_underlying ht, MapKept.run_getObj_map hb, MapKept.run_checkKey hK (isKeyI k), MapKept.run_findKey hK hfind, Result.andThen, MapKept.run_setObj_map _ hb, setBlock]
    · refine ⟨_, clock, (hput _).2.2, ?_, by rw [her]; exact hke, hn.erase k, ?_, ?_, ?_, ?_⟩
      · intro y hy
        rw [her] at hy
        refine hk y ?_
        rw [hl]
        rcases List.mem_append.1 hy with hy | hy <;> simp [hy]
      · intro y hy
        rw [her] at hy
        rcases List.mem_append.1 hy with hy | hy
        · rw [if_neg (h1 y hy)]; exact hF y (by rw [hl]; simp [hy])
        · rw [if_neg (h2 y hy)]; exact hF y (by rw [hl]; simp [hy])
      · intro y hy
        by_cases hyk : y = k
        · rw [if_pos hyk]
        · rw [if_neg hyk]
          exact hN y (fun hh => hy ((List.mem_erase_of_ne hyk).2 hh))
      · rw [her]; rw [hl] at hs
        rw [List.map_append, List.map_cons] at hs
        rw [List.map_append]
        exact hs.sublist (List.Sublist.append_left (List.sublist_cons_self _ _) _)
      · intro y hy
        rw [her] at hy
        refine hc y ?_
        rw [hl]
        rcases List.mem_append.1 hy with hy | hy <;> simp [hy]
  · have hfind := findNow_none k arr.toList 0 hk (fun y hy heq => hm (List.mem_map.2 ⟨y, hy, heq⟩))
    refine ⟨setBlock w b (.map arr clock), ?_, ?_, (hput _).1, (hput _).2.1⟩
    · simp [Builtin.delete_, run_underlying ht, MapKept.run_getObj_map hb, MapKept.run_checkKey hK (isKeyI k), MapKept.run_findKey hK hfind, Result.andThen, MapKept.run_setObj_map _ hb, setBlock]
    · rw [List.erase_of_not_mem hm]
      refine ⟨arr, clock, (hput _).2.2, hk, rfl, hn, ?_, ?_, hs, hc⟩
      · intro y hy
        rw [if_neg (fun heq => hm (List.mem_map.2 ⟨y, hy, heq⟩))]; exact hF y hy
      · intro y hy
        by_cases hyk : y = k
        · rw [if_pos hyk]
        · rw [if_neg hyk]; exact hN y hy

/-- 'len(m)'. -/
theorem MapF.len (h : MapF w b F ks) (ht : P.underlying t = some (.map K e)) (ty : TypeId) : (Builtin.len_ #[t] ty #[.map (some b)]).run P w = .ok (.int .i64 (ks.length : Int)) w := by
  obtain ⟨arr, clock, hb, hk, rfl, _⟩ := h.ex
  simp [Builtin.len_, run_underlying ht, MapKept.run_getObj_map hb, Result.andThen, goInt]
end

/-- Block r is an iterator over the map in block b; the keys that have come, in their order. -/
structure RangeF (w : World) (b r : Nat) (F : Int → Option Value) (ks done : List Int) : Prop where
  map : MapF w b F ks
  ex : ∃ (arr : Array MapEntry) (clock since : Nat) (seen : Array Nat) (c0 : Nat) (ds : List MapEntry), w.heap[b]? = some (.map arr clock) ∧ w.heap[r]? = some (.mapIter (some b) since seen c0) ∧
    (∀ x ∈ arr.toList, x.born < since) ∧ since ≤ c0 ∧ since ≤ clock ∧ (∀ x ∈ ds, x ∈ arr.toList) ∧ seen.toList = ds.map (·.born) ∧ done = ds.map keyI ∧ done.Nodup
theorem RangeF.lt {w : World} {b r : Nat} {F : Int → Option Value} {ks done : List Int} (h : RangeF w b r F ks done) : r < w.heap.size := by
  obtain ⟨arr, clock, since, seen, c0, ds, _, hr, _⟩ := h.ex
  exact (Array.getElem?_eq_some_iff.1 hr).1
theorem RangeF.kept {w w' : World} {b r : Nat} {F : Int → Option Value} {ks done : List Int} (h : RangeF w b r F ks done) (hb : w'.heap[b]? = w.heap[b]?) (hr : w'.heap[r]? = w.heap[r]?) : RangeF w' b r F ks done := by
  obtain ⟨arr, clock, since, seen, c0, ds, h1, h2, h3⟩ := h.ex
  exact ⟨h.map.kept hb, arr, clock, since, seen, c0, ds, hb.trans h1, hr.trans h2, h3⟩
theorem RangeF.sub {w : World} {b r : Nat} {F : Int → Option Value} {ks done : List Int} (h : RangeF w b r F ks done) : done.Nodup ∧ ∀ k ∈ done, k ∈ ks := by
  obtain ⟨arr, clock, since, seen, c0, ds, hb, _, _, _, _, hds, _, rfl, hn⟩ := h.ex
  refine ⟨hn, fun k hk => ?_⟩
  obtain ⟨x, hx, rfl⟩ := List.mem_map.1 hk
  obtain ⟨arr', clock', hb', _, rfl, _⟩ := h.map.ex
  rw [hb] at hb'
  cases hb'
  exact List.mem_map_of_mem (hds x hx)
theorem nodup_le {l l' : List Int} (h : l.Nodup) (hs : ∀ k ∈ l, k ∈ l') : l.length ≤ l'.length := by
  induction l generalizing l' with
  | nil => simp
  | cons a l ih =>
    rw [List.nodup_cons] at h
    have ha := hs a (by simp)
    have := ih (l' := l'.erase a) h.2 (fun k hk => (List.mem_erase_of_ne (fun e => h.1 (by rw [← e]; exact hk))).2 (hs k (by simp [hk])))
    rw [List.length_erase_of_mem ha] at this
    have := List.length_pos_of_mem ha
    rw [List.length_cons]
    omega

section
variable {P : Program} {w : World} {b r : Nat} {F : Int → Option Value} {ks done : List Int} {t K e : TypeId}
/-- 'range m'. -/
theorem MapF.range (h : MapF w b F ks) (ht : P.underlying t = some (.map K e)) :
    ∃ w', (Instr.range t (.map (some b))).run P w = .ok (.pointer (some ⟨w.heap.size, 0, none⟩)) w' ∧ RangeF w' b w.heap.size F ks [] ∧ w' = w.alloc (w'.heap[w.heap.size]!) ∧ w.grownBy w' none ∧ w'.heap.size = w.heap.size + 1 := by
  obtain ⟨arr, clock, hb, hk, hks, hn, hF, hN, hs, hc⟩ := h.ex
  have hlt := (Array.getElem?_eq_some_iff.1 hb).1
  refine ⟨w.alloc (.mapIter (some b) clock #[] clock), run_range_map w t K e b arr clock ht hb, ⟨h.kept (heap_alloc_old w _ hlt), arr, clock, clock, #[], clock, [], (heap_alloc_old w _ hlt).trans hb, heap_alloc_new w _, hc, Nat.le_refl _, Nat.le_refl _, by simp, rfl, rfl, List.nodup_nil⟩, ?_, World.grownBy_alloc w _ none, by simp⟩
  congr 1
  have := heap_alloc_new w (.mapIter (some b) clock #[] clock)
  simp only [getElem!_def, this]
/-- The next entry: either all have come, or one that has not comes. -/
theorem RangeF.next (h : RangeF w b r F ks done) (ty : TypeId) :
    ((∀ k ∈ ks, k ∈ done) ∧ (Instr.next (.pointer (some ⟨r, 0, none⟩)) false ty).run P w = .ok (.tuple #[.bool false]) w) ∨
    ∃ k v w', k ∉ done ∧ k ∈ ks ∧ F k = some v ∧ (Instr.next (.pointer (some ⟨r, 0, none⟩)) false ty).run P w = .ok (.tuple #[.bool true, .int .i64 k, v]) w' ∧ RangeF w' b r F ks (done ++ [k]) ∧ w.grownBy w' (some r) ∧ w'.heap.size = w.heap.size ∧ (Instr.entry (.pointer (some ⟨r, 0, none⟩))).run P w' = .ok (.tuple #[.int .i64 k, v]) w' := by
  obtain ⟨arr, clock, since, seen, c0, ds, hb, hr, hold, hsc, hs2, hds, hseen, rfl, hn⟩ := h.ex
  have hmap := h.map
  obtain ⟨arr', clock', hb', hk, rfl, hkn, hF, hN, hs, hc⟩ := h.map.ex
  rw [hb] at hb'
  cases hb'
  rcases run_next_at (P := P) w ty r b since c0 seen arr clock hr hb hold hsc with ⟨h0, hrun⟩ | ⟨x, hx, w1, hw1, hrun⟩
  · refine .inl ⟨fun k hkm => ?_, hrun⟩
    obtain ⟨y, hy, rfl⟩ := List.mem_map.1 hkm
    have := all_seen arr seen h0 y hy
    have hm : y.born ∈ seen.toList := by simpa using this
    rw [hseen] at hm
    obtain ⟨z, hz, he⟩ := List.mem_map.1 hm
    have hzy := born_inj hs (hds z hz) hy he
    exact List.mem_map.2 ⟨z, hz, by rw [hzy]⟩
  · obtain ⟨hxm, hxs⟩ := mem_left hx
    have hnot : keyI x ∉ ds.map keyI := fun hm => by
      obtain ⟨z, hz, he⟩ := List.mem_map.1 hm
      have hzx : z = x := by
        obtain ⟨l1, y, l2, hl, hy, h1, h2⟩ := split_key (List.mem_map_of_mem (f := keyI) hxm) hkn
        have huniq : ∀ u ∈ arr.toList, keyI u = keyI x → u = y := fun u hu hue => by
          rw [hl] at hu
          rcases List.mem_append.1 hu with hu | hu
          · exact absurd hue (h1 u hu)
          · rcases List.mem_cons.1 hu with rfl | hu
            · rfl
            · exact absurd hue (h2 u hu)
        rw [huniq z (hds z hz) he, huniq x hxm rfl]
      subst hzx
      have : z.born ∈ seen.toList := by rw [hseen]; exact List.mem_map_of_mem hz
      have : seen.contains z.born = true := by simpa using this
      rw [this] at hxs; cases hxs
    have hrw1 : w1.heap = w.heap := by rcases hw1 with rfl | rfl <;> rfl
    have hr1 : w1.heap[r]? = some (.mapIter (some b) since seen c0) := by rw [hrw1]; exact hr
    have hne : b ≠ r := fun e => by rw [e, hr] at hb; cases hb
    have hg1 : w1.grownBy (setBlock w1 r (.mapIter (some b) since (seen.push x.born) clock)) (some r) := ⟨rfl, rfl, rfl, by simp [setBlock], fun i _ hi => (MapKept.heap_set hr1).2 i (fun e => hi (by rw [e]))⟩
    have hbk : (setBlock w1 r (.mapIter (some b) since (seen.push x.born) clock)).heap[b]? = w.heap[b]? := by rw [show (setBlock w1 r (.mapIter (some b) since (seen.push x.born) clock)).heap[b]? = w1.heap[b]? from (MapKept.heap_set hr1).2 b hne, hrw1]
    refine .inr ⟨keyI x, x.val, _, hnot, List.mem_map_of_mem hxm, hF x hxm, by rw [hrun, hk x hxm], ⟨hmap.kept hbk, arr, clock, since, seen.push x.born, clock, ds ++ [x], hbk.trans hb, (MapKept.heap_set hr1).1, hold, hs2, hs2, ?_, by rw [Array.toList_push, hseen, List.map_append]; rfl, by rw [List.map_append]; rfl, ?_⟩, ?_, ?_, ?_⟩
    · intro y hy
      rcases List.mem_append.1 hy with hy | hy
      · exact hds y hy
      · rw [List.mem_singleton.1 hy]; exact hxm
    · rw [List.nodup_append]
      exact ⟨hn, by simp, fun a ha c hcc heq => by rw [List.mem_singleton.1 hcc] at heq; exact hnot (heq ▸ ha)⟩
    · rcases hw1 with rfl | rfl
      · exact hg1
      · exact ⟨hg1.os, hg1.tape, hg1.output, hg1.size, hg1.block⟩
    · rw [← hrw1]; simp [setBlock]
    · have := run_entry_at (P := P) (setBlock w1 r (.mapIter (some b) since (seen.push x.born) clock)) r b since seen arr clock x (MapKept.heap_set hr1).1 (hbk.trans hb) hxm hs
      rw [hk x hxm] at this
      exact this

variable {ops : Array Oper} {rest : List Oper} {o : Oper} {a : Act} {Q : Exit → Act → World → Prop}
theorem wpList_range_F (hg : o.guard = none) (m : Operand) (hop : o.op = Op.range t m) (ht : P.underlying t = some (.map K e)) (hm : a.eval m = .map (some b)) (h : MapF w b F ks)
    (hK : ∀ w', RangeF w' b w.heap.size F ks [] → w.grownBy w' none → w'.heap.size = w.heap.size + 1 → wpList P ops Q rest (a.put o.dst (.pointer (some ⟨w.heap.size, 0, none⟩))) w') : wpList P ops Q (o :: rest) a w := by
  refine wpList_plain hg fun K' hK' => ?_
  obtain ⟨w', hrun, r1, _, r2, r3⟩ := h.range ht
  unfold Oper.wp
  simp [execOp, hop, hm, hrun, Result.andThen]
  exact hK' _ _ (hK w' r1 r2 r3)
theorem wpList_next_F (hg : o.guard = none) (it : Operand) (hop : o.op = Op.next it false) (hit : a.eval it = .pointer (some ⟨r, 0, none⟩)) (h : RangeF w b r F ks done)
    (hDone : (∀ k ∈ ks, k ∈ done) → wpList P ops Q rest (a.put o.dst (.tuple #[.bool false])) w)
    (hMore : ∀ k v w', k ∉ done → k ∈ ks → F k = some v → RangeF w' b r F ks (done ++ [k]) → w.grownBy w' (some r) → w'.heap.size = w.heap.size → (Instr.entry (.pointer (some ⟨r, 0, none⟩))).run P w' = .ok (.tuple #[.int .i64 k, v]) w' → wpList P ops Q rest (a.put o.dst (.tuple #[.bool true, .int .i64 k, v])) w') : wpList P ops Q (o :: rest) a w := by
  refine wpList_plain hg fun K' hK' => ?_
  rcases h.next (P := P) o.type with ⟨h1, hrun⟩ | ⟨k, v, w', h1, h2, h3, hrun, h4, h5, h6, h7⟩
  · unfold Oper.wp
    simp [execOp, hop, hit, hrun, Result.andThen]
    exact hK' _ _ (hDone h1)
  · unfold Oper.wp
    simp [execOp, hop, hit, hrun, Result.andThen]
    exact hK' _ _ (hMore k v w' h1 h2 h3 h4 h5 h6 h7)
theorem wpList_delete_F (hg : o.guard = none) (m x : Operand) {k : Int} (hop : o.op = .call { callee := .builtin .delete, args := #[m, x], argTypes := #[t, K] }) (ht : P.underlying t = some (.map K e)) (hK : P.underlying K = some (.int .i64)) (hm : a.eval m = .map (some b)) (hx : a.eval x = .int .i64 k) (h : MapF w b F ks)
    (hc : ∀ w', MapF w' b (fun x => if x = k then none else F x) (ks.erase k) → w.grownBy w' (some b) → w'.heap.size = w.heap.size → wpList P ops Q rest (a.put o.dst (.tuple #[])) w') : wpList P ops Q (o :: rest) a w := by
  refine wpList_plain hg fun K' hK' => ?_
  obtain ⟨w', hrun, r1, r2, r3⟩ := h.drop (P := P) ht hK o.type k
  unfold Oper.wp execOp
  simp only [hop, resolve, invoke, builtin, Sem.run_bind, Sem.run_pure, Result.andThen_ok, List.map_toArray, List.map_cons, List.map_nil, hm, hx, hrun]
  exact hK' _ _ (hc w' r1 r2 r3)
theorem wpList_update_F (hg : o.guard = none) (m x y : Operand) {k : Int} {v : Value} (hop : o.op = .mapUpdate t m x y) (ht : P.underlying t = some (.map K e)) (hK : P.underlying K = some (.int .i64)) (hm : a.eval m = .map (some b)) (hx : a.eval x = .int .i64 k) (hy : a.eval y = v) (h : MapF w b F ks)
    (hc : ∀ w', MapF w' b (fun x => if x = k then some v else F x) (if k ∈ ks then ks else ks ++ [k]) → w.grownBy w' (some b) → w'.heap.size = w.heap.size → wpList P ops Q rest (a.put o.dst undef) w') : wpList P ops Q (o :: rest) a w := by
  refine wpList_plain hg fun K' hK' => ?_
  obtain ⟨w', hrun, r1, r2, r3⟩ := h.update (P := P) ht hK k v
  unfold Oper.wp execOp
  simp only [hop, Sem.run_bind, Sem.run_pure, Result.andThen_ok, hm, hx, hy, hrun]
  exact hK' _ _ (hc w' r1 r2 r3)
end
end Go.Proofs.Ytpehnggglolnoaa
