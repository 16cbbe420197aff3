/- Package disk: Files. -/
import Derived.Test.YtpehnggglolnoaaDskE
import Derived.Test.YtpehnggglolnoaaLay189
import Derived.Sort.OwnSortedInts
import Derived.Deep.Cut
import Derived.Deep.CutRange
namespace Go.Proofs.Ytpehnggglolnoaa
open Go.RowKit

/-- The numbers of the files that are not empty, in their order. -/
def Dk.files (D : Dk) : List Int := ((List.range 64).filter fun (i : Nat) => !(D.fs (i : Int)).1.isEmpty).map fun (i : Nat) => (i : Int)
theorem files_mem (D : Dk) (k : Int) : k ∈ D.files ↔ 0 ≤ k ∧ k < 64 ∧ (D.fs k).1 ≠ [] := by
  simp only [Dk.files, List.mem_map, List.mem_filter, List.mem_range, Bool.not_eq_true', List.isEmpty_eq_false_iff]
  constructor
  · rintro ⟨i, ⟨h1, h2⟩, rfl⟩
    exact ⟨by omega, by omega, h2⟩
  · rintro ⟨h1, h2, h3⟩
    refine ⟨k.toNat, ⟨by omega, ?_⟩, by omega⟩
    rw [show ((k.toNat : Nat) : Int) = k by omega]
    exact h3
theorem files_sorted (D : Dk) : D.files.Pairwise (fun a b => a < b) := by
  unfold Dk.files
  rw [List.pairwise_map]
  exact (List.pairwise_lt_range.filter _).imp (fun h => by omega)
theorem files_nodup (D : Dk) : D.files.Nodup := (files_sorted D).imp (fun h => by omega)
theorem sort_files (D : Dk) (l : List Int) (hn : l.Nodup) (hm : ∀ k, k ∈ l ↔ k ∈ D.files) : (l.mergeSort fun x y => decide (x ≤ y)) = D.files := by
  have hp : (l.mergeSort fun x y => decide (x ≤ y)).Perm D.files := (List.mergeSort_perm l _).trans ((List.perm_ext_iff_of_nodup hn (files_nodup D)).2 hm)
  refine List.Perm.eq_of_pairwise (le := fun a b => a ≤ b) (fun a b _ _ h1 h2 => by omega) ?_ ((files_sorted D).imp (fun h => by omega)) hp
  have := List.pairwise_mergeSort (le := fun (x y : Int) => decide (x ≤ y)) (fun a b c h1 h2 => by simp only [decide_eq_true_eq] at *; omega) (fun a b => by simp only [Bool.or_eq_true, decide_eq_true_eq]; omega) l
  exact this.imp (fun h => by simpa using h)
theorem DiskX.keys {ex : Int → Prop} {w : World} {p mb : Nat} {F : Int → Option Value} {ks : List Int} {X : Nat → Prop} {D : Dk} (h : DiskX ex w p mb F ks X D) (k : Int) : k ∈ ks ↔ k ∈ D.files := by
  rw [h.map.mem k, files_mem]
  constructor
  · rintro ⟨v, hv⟩
    by_cases he : (D.fs k).1 = []
    · rw [(h.emp k he).1] at hv; cases hv
    · obtain ⟨h1, h2, _⟩ := h.ful k he
      exact ⟨h1, h2, he⟩
  · rintro ⟨_, _, he⟩
    obtain ⟨_, _, a, c, hF⟩ := h.ful k he
    exact ⟨_, hF⟩
theorem files_len (D : Dk) : D.files.length ≤ 64 := by
  unfold Dk.files
  rw [List.length_map]
  exact Nat.le_trans (List.length_filter_le _ _) (by simp)
/-- slices.Sort at a row that is the caller's own. -/
theorem sort_any {base : Nat} (l : List Int) (a : Option Addr) (c : Nat) (w : World) (hO : w.ownsRow base 3 1 (.slice a l.length c) l.length (l.map (Value.int .i64))) (hl : l.length ≤ 1000000) :
    Calls Try.prog 81 #[.slice a l.length c] w fun e w' => e = .returned (.tuple #[]) ∧ w'.ownsRow base 3 1 (.slice a l.length c) l.length ((l.mergeSort fun x y => decide (x ≤ y)).map (Value.int .i64)) ∧ w.grownBy w' (Value.slice a l.length c).ownBlock := by
  rcases hO.2 with ⟨hnil, hk0⟩ | ⟨g, cap, cur, hv, hbase, hb, h1, h2, h3, h4⟩
  · injection hnil with e1 e2 e3
    subst e1 e3
    obtain rfl : l = [] := List.eq_nil_of_length_eq_zero e2
    refine (Any.slices_Sort_int_none lays189 none 0 w).mono ?_
    rintro e w' ⟨rfl, rfl⟩
    exact ⟨rfl, by simpa using hO, World.grownBy.refl _ _⟩
  · injection hv with e1 e2 e3
    subst e1 e3
    have hH : Go.Sort.Holds (Value.int .i64) w g 0 l.toArray := holds_of_blockI hb (by simpa using h4)
    have hgl : g < w.heap.size := (Array.getElem?_eq_some_iff.1 hb).1
    refine (Any.slices_Sort_int lays189 g 0 c l w hH hgl (by omega)).mono ?_
    rintro e w' ⟨rfl, nn, os, rfl⟩
    have hl2 : (l.mergeSort fun x y => decide (x ≤ y)).length = l.length := List.length_mergeSort l
    exact ⟨rfl, ownsRow_sortedI (n := nn) (os := os) (ts := l.mergeSort fun x y => decide (x ≤ y)) hl2 hbase hb h1 h2 h3, grownBy_sortedI _⟩
theorem nodup_len : ∀ (l m : List Int), l.Nodup → (∀ x ∈ l, x ∈ m) → l.length ≤ m.length
  | [], _, _, _ => Nat.zero_le _
  | x :: l, m, hn, hs => by
    rw [List.nodup_cons] at hn
    have hx := hs x (by simp)
    have h := nodup_len l (m.erase x) hn.2 (fun y hy => (List.mem_erase_of_ne (fun (e : y = x) => hn.1 (e ▸ hy))).2 (hs y (by simp [hy])))
    rw [List.length_erase_of_mem hx] at h
    have := List.length_pos_of_mem hx
    rw [List.length_cons]
    omega
theorem heap_alloc_old1 (w : World) (o : Obj) (k : Nat) (h : k < w.heap.size) : (w.alloc o).heap[k]? = w.heap[k]? := Below.heap_alloc w o k h
theorem own_isSlice {w : World} {base : Nat} {e : TypeId} {v : Value} {n : Nat} {xs : List Value} (h : w.ownsRow base e 1 v n xs) : ∃ a c, v = .slice a n c := by
  rcases h.2 with ⟨rfl, rfl⟩ | ⟨g, cap, cur, rfl, _⟩
  · exact ⟨_, _, rfl⟩
  · exact ⟨_, _, rfl⟩
def sliceLnD : Value → Nat
  | .slice _ n _ => n
  | _ => 0
set_option maxRecDepth 10000 in
set_option maxHeartbeats 1000000 in
theorem files_any {ex : Int → Prop} (w : World) {p mb : Nat} {F : Int → Option Value} {ks : List Int} {X : Nat → Prop} {D : Dk} (h : DiskX ex w p mb F ks X D) :
    Calls Try.prog 57 #[.pointer (some ⟨p, 0, none⟩)] w (RetMade w 3 (D.files.map (Value.int .i64))) := by
  have c2 := h.c2
  have hkl : ks.length ≤ 64 := by
    have hp := (List.perm_ext_iff_of_nodup h.map.nodup (files_nodup D)).2 h.keys
    rw [hp.length_eq]
    exact files_len D
  have hlen := h.map.len (P := Try.prog) (t := 94) (K := 3) (e := 105) Try.underlyingMapF 3
  obtain ⟨ii, hi, hz, hsz, hby⟩ := info_parts Try.infoI
  obtain ⟨w1, hmk, O1, g1⟩ := run_make_own (P := Try.prog) w w.heap.size 22 3 ii _ 1 Try.underlying22 hi hz hsz .i64 .i64 ks.length (by rw [hby]; omega) (by unfold maxLen; omega) (Nat.le_refl _)
  have B1 : Below w.heap.size w w1 := (Below.refl _ w).grown g1 (Nat.le_refl _) (fun g hg => by cases hg)
  have H1 := h.later B1
  have c21 := H1.c2
  have hl1 := O1.lt w.heap.size rfl
  obtain ⟨w2, hrg, r2, hx, g2, s2⟩ := H1.map.range (P := Try.prog) (t := 94) (K := 3) (e := 105) Try.underlyingMapF
  have B2 : Below w.heap.size w w2 := B1.grown g2 B1.size (fun g hg => by cases hg)
  have O2 := own_same (w' := w2) O1 (fun x hx => g2.block x (O1.lt x hx).2 (by simp))
  have HK := Lib.hid h.keys
  have HM := Lib.hid h.map.lt
  have hnd := h.map.nodup
  have hnd' := hnd
  clear h hnd hnd' g1 s2 g2 hi hz hsz hby hx
  go_enter Try.func57, Try.ntmps57
  go_wp2_with fail
  have hrr : w.heap.size ≠ w1.heap.size := by omega
  have hmr := H1.map.lt
  have hrw : w.heap.size ≤ w1.heap.size := B1.size
  have hmw := HM.out
  generalize w1.heap.size = r at r2 hrr hmr hrw ⊢
  clear hmk hrg hlen c2 c21 O1 B1 H1 hl1
  go_loopw [3] (fun u W => ∃ (done : List Int) (a : Option Addr) (c : Nat), u = .slice a done.length c ∧ RangeF W mb r F ks done ∧ W.ownsRow w.heap.size 3 1 (.slice a done.length c) done.length (done.map (Value.int .i64)) ∧ (∀ b, (Value.slice a done.length c).ownBlock = some b → b ≠ r) ∧ Below w.heap.size w W) (fun u _ => ks.length - sliceLnD u)
  case atStart => exact ⟨[], _, _, rfl, r2, O2, (fun b hb => by cases hb; exact hrr), B2⟩
  case round =>
    rename World => W
    obtain ⟨done, a, c, rfl, R, O, hbr, B⟩ := hrel
    have hsub := R.sub
    have HU := Lib.hid hsub
    clear hsub
    rcases R.next (P := Try.prog) 0 with ⟨hall, hnx⟩ | ⟨k, v, W1, hkd, hkk, hFk, hnx, R1, g1, s1, hent⟩
    · have HALL := Lib.hid hall
      clear hall
      go_wp2_with fail
      have hd64 : done.length ≤ 1000000 := by
        have := nodup_len _ _ HU.out.1 HU.out.2
        omega
      refine (sort_any done a c W O hd64).mono ?_
      rintro e W2 ⟨rfl, O2, g2⟩
      go_wp2_with fail
      go_ret
      rw [sort_files D done HU.out.1 (fun k => ⟨fun hk => (HK.out k).1 (HU.out.2 k hk), fun hk => HALL.out k ((HK.out k).2 hk)⟩)] at O2
      exact retMade O2 rfl (B.grown g2 B.size (fun g hg => (O.lt g hg).1))
    · have O1 := own_same (w' := W1) O (fun x hx => g1.block x ((O.lt x hx).2) (fun e => absurd rfl (by cases e; exact hbr _ hx)))
      have S1 := Lib.hid s1
      have H1 := R1.sub
      have hdl : (done ++ [k]).length ≤ ks.length := nodup_len _ _ H1.1 H1.2
      rw [List.length_append, List.length_singleton] at hdl
      have h64 : done.length ≤ 64 := by omega
      have hbw : w.heap.size ≤ W1.heap.size := by rw [s1]; exact B.size
      have HD := Lib.hid hdl
      clear s1 H1 hdl
      go_wp2_with (at_builtin; go_loud (refine wpList_app2 _ rfl _ _ rfl Try.elI w.heap.size _ done.length _ rfl (O1.alloc _) _ 1 [.int .i64 k] rfl (Rv.one _ _ _) rfl (ones1 _ rfl) (by omega) (by simp; omega) ?_; intro v5 w5 O5 g5 s5; refine later ?_))
      refine Later.in ?_
      have hsz1 : (W1.alloc (.cells #[.int .i64 k] 3)).heap.size = W1.heap.size + 1 := by simp
      have hga := heap_alloc_old1 W1 (.cells #[.int .i64 k] 3)
      replace g5 : (W1.alloc (.cells #[.int .i64 k] 3)).grownBy w5 (Value.slice a done.length c).ownBlock := g5
      replace s5 : SameOrNew (W1.alloc (.cells #[.int .i64 k] 3)) (Value.slice a done.length c) v5 := s5
      have hO1 := O1.lt
      have hbr1 : ∀ b, v5.ownBlock = some b → b ≠ r := fun b hb => by
        rcases s5 with h | h
        · rw [h] at hb; exact hbr b hb
        · have h1 := h b hb
          have h2 := R1.lt
          simp at h1
          omega
      have R5 : RangeF w5 mb r F ks (done ++ [k]) := R1.kept
        ((g5.block mb (by omega) (fun e => by have := (hO1 mb e.symm).1; omega)).trans (hga mb (by omega)))
        ((g5.block r (by have := R1.lt; omega) (fun e => hbr r e.symm rfl)).trans (hga r R1.lt))
      have B5 : Below w.heap.size w w5 := ((B.grown g1 B.size (fun g hg => by cases hg; exact hrw)).alloc hbw _).grown g5 (by omega) (fun g hg => (hO1 g hg).1)
      have hn5 : (done ++ [k]).length = done.length + 1 := by simp
      have hO5 : w5.ownsRow w.heap.size 3 1 v5 (done ++ [k]).length ((done ++ [k]).map (Value.int .i64)) := by
        rw [hn5, List.map_append]
        exact O5
      obtain ⟨a5, c5, rfl⟩ := own_isSlice O5
      go_wp2_with fail
      refine ⟨⟨done ++ [k], a5, c5, by rw [hn5], R5, ?_, ?_, B5⟩, ?_⟩
      · rw [hn5] at hO5 ⊢; exact hO5
      · rw [hn5]; exact hbr1
      have := HD.out
      simp [sliceLnD]
      omega
end Go.Proofs.Ytpehnggglolnoaa
