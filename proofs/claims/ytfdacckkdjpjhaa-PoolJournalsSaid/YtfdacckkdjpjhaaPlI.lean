/- Package pool: the keys of its map, sorted. -/
import Derived.Test.YtfdacckkdjpjhaaPlH
import Derived.Test.YtfdacckkdjpjhaaKyL
namespace Go.Proofs.Ytfdacckkdjpjhaa
open Go.RowKit Go.Shelf Go.ChangeMaps Go.WideShapes

/-- A map keyed by int, as the shelf has it. -/
theorem MapF.owns {w : World} {b : Nat} {F : Int → Option Value} {ks : List Int} (h : MapF w b F ks) {P : Program} {k : TypeId} (hk : P.underlying k = some (.int .i64)) (hw : ∀ x ∈ ks, (Lit.int .i64 x).wf = true) (hm : ks.length ≤ maxLen) :
    ∃ D0 : DataW Unit, w.ownsMap P k (fun _ => some (.nil, [])) b ks.length D0 ∧ (Go.intKeys D0).Perm ks ∧ Maps.size D0 = ks.length := by
  obtain ⟨arr, clock, hb, hkey, rfl, hnd, hF, hN, hbn, hbc⟩ := h.ex
  rw [List.length_map] at hm
  have hrd : ∀ x ∈ arr.toList, Go.WideElems.rd P k (fun _ => some ((.nil : DataW Unit), [])) x = some (.int .i64 (keyI x), .nil) := fun x hx => by
    have h1 := hkey x hx
    have h2 := hw (keyI x) (List.mem_map_of_mem hx)
    unfold Go.WideElems.rd
    rw [h1]
    simp [keyOf, hk, mapKey, h2]
  have hrg : arr.toList.map (Go.WideElems.rg P k (fun _ => some ((.nil : DataW Unit), []))) = arr.toList.map fun x => ((.int .i64 (keyI x) : Lit), (.nil : DataW Unit)) := List.map_congr_left fun x hx => Go.WideElems.rg_of (hrd x hx)
  have hp := sorted_perm (arr.toList.map fun x => ((.int .i64 (keyI x) : Lit), (.nil : DataW Unit)))
  refine ⟨.map ((arr.toList.map fun x => ((.int .i64 (keyI x) : Lit), (.nil : DataW Unit))).foldr DataW.insert []), ⟨arr, clock, hb, ⟨by simpa using hm, ⟨hbc, hbn, ?_⟩, fun x hx => ⟨_, hrd x hx⟩⟩, by simp, by rw [hrg]⟩, ?_, ?_⟩
  · have : (arr.toList.map (·.key)) = (arr.toList.map keyI).map (Value.int .i64) := by
      rw [List.map_map]
      exact List.map_congr_left fun x hx => hkey x hx
    rw [this]
    exact List.Pairwise.map _ (fun a b hab e => hab (by injection e)) hnd
  · have := hp.map (fun p => Go.intOf p.1)
    rw [List.map_map] at this
    exact this
  · have := hp.length_eq
    simpa [Maps.size] using this
theorem sortsA (m : Nat) : AnyZI.SortsIn Try.prog sortedA_ren Fence.wide m :=
  ⟨fun blk off cap ss W hH hblk hsz => callsIn_wide.2 (AnyM.slices_Sort_int sortA blk off cap ss W hH hblk hsz),
   fun p cap W => callsIn_wide.2 (AnyM.slices_Sort_int_none sortA p cap W)⟩
set_option maxRecDepth 10000 in
/-- maps.Keys. -/
theorem keys_any (mb : Option Nat) (W : World) : Calls Try.prog 78 #[.map mb] W fun e w' => e = .returned (.func (.func 85) #[] #[.pointer (some ⟨W.heap.size, 0, none⟩)]) ∧ w' = W.alloc (.cells #[.map mb] 96) :=
  (callsIn_wide (n := 5)).1 (AnyZI.keys_in keysA Fence.wide 5 trivial rfl mb W)
set_option maxRecDepth 10000 in
/-- slices.Sorted of them. -/
theorem sorted_any {w : World} {mb : Nat} {F : Int → Option Value} {ks ids : List Int} (h : MapF w mb F ks) (hp : ks.Perm ids) (ho : ids.Pairwise (· < ·)) (hr : ∀ k ∈ ids, 0 ≤ k ∧ k ≤ 9223372036854775807) (hl : ids.length ≤ 1024) :
    Calls Try.prog 77 #[.func (.func 85) #[] #[.pointer (some ⟨w.heap.size, 0, none⟩)]] (w.alloc (.cells #[.map (some mb)] 96)) fun e w' => ∃ v, e = .returned v ∧ w'.ownsRow w.heap.size 3 1 v ids.length (ids.map (Value.int .i64)) ∧ Below w.heap.size w w' := by
  have hml : (1024 : Nat) ≤ maxLen := by decide
  have hkl := hp.length_eq
  obtain ⟨D0, hown, hperm, hsz⟩ := h.owns (P := Try.prog) (k := 3) Try.underlying3 (fun x hx => by
    have := hr x (hp.mem_iff.1 hx)
    have hmn : IntKind.i64.min = -9223372036854775808 := rfl
    simp [Lit.wf]
    exact ⟨by omega, this.2⟩) (by omega)
  have hbl := hown.lt
  have hseq : SeqGives Fence.wide 2 Try.prog 85 #[.pointer (some ⟨w.heap.size, 0, none⟩)] encZ (fun ss => ss.Perm (Go.intKeys D0)) (Maps.size D0) (w.alloc (.cells #[.map (some mb)] 96)) :=
    AnyZI.keys_gives (ρ := keysA_ren) { keysA with } Fence.wide _ trivial rfl (by omega) w.heap.size mb ks.length D0 _ (by simp) (by simp) (by
      obtain ⟨es, clock, hb, Ft, hs, hD⟩ := hown
      exact ⟨es, clock, (Below.heap_alloc _ _ mb hbl).trans hb, Ft, hs, hD⟩)
  refine (callsIn_wide (n := 5)).1 ?_
  have cS := AnyZI.sorted_in sortedA Fence.wide 5 trivial trivial trivial trivial rfl (by omega) (sortsA _) (enters_of Try.func79 (by kernel_rfl) rfl) 85 #[.pointer (some ⟨w.heap.size, 0, none⟩)] trivial (enters_of Try.func85 (by kernel_rfl) rfl) _ (Maps.size D0) (by omega) (by omega) _ hseq
  refine CallsIn.mono cS ?_
  rintro e w' ⟨v, ss, rfl, hS, hrow, _, hb⟩
  have e1 : ss.mergeSort (fun x y => decide (x ≤ y)) = ids := by
    rw [mergeSort_of_perm_i (hS.trans (hperm.trans hp))]
    exact List.mergeSort_of_pairwise (ho.imp (fun h => by simp only [leI, decide_eq_true_eq]; omega))
  have e2 : ss.length = ids.length := (hS.trans (hperm.trans hp)).length_eq
  rw [e1, e2] at hrow
  exact ⟨v, rfl, ownsRow_base_a hrow (by simp), ((Below.refl _ w).alloc (Nat.le_refl _) _).trans (hb.mono (by simp))⟩
end Go.Proofs.Ytfdacckkdjpjhaa
