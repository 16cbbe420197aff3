/- Several texts in one: DskF DskG. -/
import Derived.Test.YtpehnggglolnoaaDskE
import Derived.Test.YtpehnggglolnoaaLay189
import Derived.Sort.OwnSortedInts
import Derived.Deep.Cut
import Derived.Deep.CutRange
/- Package disk: Files. -/
namespace Go.Proofs.Ytpehnggglolnoaa
open Go.RowKit

/-- The numbers of the files that are not empty, in their order. -/
def Dk.files (D : Dk) : List Int := ((List.range 64).filter fun (i : Nat) => !(D.fs (i : Int)).1.isEmpty).map fun (i : Nat) => (i : Int)
theorem files_mem (D : Dk) (k : Int) : k ∈ D.files ↔ 0 ≤ k ∧ k < 64 ∧ (D.fs k).1 ≠ [] := by
  simp only [Dk.files, List.mem_map, List.mem_filter, List.mem_range, Bool.not_eq_true', List.isEmpty_eq_false_iff]
  constructor
  · rintro ⟨i, ⟨h1, h2⟩, rfl⟩
    exact ⟨by omega, by omega, h2⟩
  · rintro ⟨h1, h2, h3⟩
    refine ⟨k.toNat, ⟨by omega, ?_⟩, by omega⟩
    rw [show ((k.toNat : Nat) : Int) = k by omega]
    exact h3
theorem files_sorted (D : Dk) : D.files.Pairwise (fun a b => a < b) := by
  unfold Dk.files
  rw [List.pairwise_map]
  exact (List.pairwise_lt_range.filter _).imp (fun h => by omega)
theorem files_nodup (D : Dk) : D.files.Nodup := (files_sorted D).imp (fun h => by omega)
theorem sort_files (D : Dk) (l : List Int) (hn : l.Nodup) (hm : ∀ k, k ∈ l ↔ k ∈ D.files) : (l.mergeSort fun x y => decide (x ≤ y)) = D.files := by
  have hp : (l.mergeSort fun x y => decide (x ≤ y)).Perm D.files := (List.mergeSort_perm l _).trans ((List.perm_ext_iff_of_nodup hn (files_nodup D)).2 hm)
  refine List.Perm.eq_of_pairwise (le := fun a b => a ≤ b) (fun a b _ _ h1 h2 => by omega) ?_ ((files_sorted D).imp (fun h => by omega)) hp
  have := List.pairwise_mergeSort (le := fun (x y : Int) => decide (x ≤ y)) (fun a b c h1 h2 => by simp only [decide_eq_true_eq] at *; omega) (fun a b => by simp only [Bool.or_eq_true, decide_eq_true_eq]; omega) l
  exact this.imp (fun h => by simpa using h)
theorem DiskX.keys {ex : Int → Prop} {w : World} {p mb : Nat} {F : Int → Option Value} {ks : List Int} {X : Nat → Prop} {D : Dk} (h : DiskX ex w p mb F ks X D) (k : Int) : k ∈ ks ↔ k ∈ D.files := by
  rw [h.map.mem k, files_mem]
  constructor
  · rintro ⟨v, hv⟩
    by_cases he : (D.fs k).1 = []
    · rw [(h.emp k he).1] at hv; cases hv
    · obtain ⟨h1, h2, _⟩ := h.ful k he
      exact ⟨h1, h2, he⟩
  · rintro ⟨_, _, he⟩
    obtain ⟨_, _, a, c, hF⟩ := h.ful k he
    exact ⟨_, hF⟩
theorem files_len (D : Dk) : D.files.length ≤ 64 := by
  unfold Dk.files
  rw [List.length_map]
  exact Nat.le_trans (List.length_filter_le _ _) (by simp)
/-- slices.Sort at a row that is the caller's own. -/
theorem sort_any {base : Nat} (l : List Int) (a : Option Addr) (c : Nat) (w : World) (hO : w.ownsRow base 3 1 (.slice a l.length c) l.length (l.map (Value.int .i64))) (hl : l.length ≤ 1000000) :
    Calls Try.prog 81 #[.slice a l.length c] w fun e w' => e = .returned (.tuple #[]) ∧ w'.ownsRow base 3 1 (.slice a l.length c) l.length ((l.mergeSort fun x y => decide (x ≤ y)).map (Value.int .i64)) ∧ w.grownBy w' (Value.slice a l.length c).ownBlock := by
  rcases hO.2 with ⟨hnil, hk0⟩ | ⟨g, cap, cur, hv, hbase, hb, h1, h2, h3, h4⟩
  · injection hnil with e1 e2 e3
    subst e1 e3
    obtain rfl : l = [] := List.eq_nil_of_length_eq_zero e2
    refine (Any.slices_Sort_int_none lays189 none 0 w).mono ?_
    rintro e w' ⟨rfl, rfl⟩
    exact ⟨rfl, by simpa using hO, World.grownBy.refl _ _⟩
  · injection hv with e1 e2 e3
    subst e1 e3
    have hH : Go.Sort.Holds (Value.int .i64) w g 0 l.toArray := holds_of_blockI hb (by simpa using h4)
    have hgl : g < w.heap.size := (Array.getElem?_eq_some_iff.1 hb).1
    refine (Any.slices_Sort_int lays189 g 0 c l w hH hgl (by omega)).mono ?_
    rintro e w' ⟨rfl, nn, os, rfl⟩
    have hl2 : (l.mergeSort fun x y => decide (x ≤ y)).length = l.length := List.length_mergeSort l
    exact ⟨rfl, ownsRow_sortedI (n := nn) (os := os) (ts := l.mergeSort fun x y => decide (x ≤ y)) hl2 hbase hb h1 h2 h3, grownBy_sortedI _⟩
theorem nodup_len : ∀ (l m : List Int), l.Nodup → (∀ x ∈ l, x ∈ m) → l.length ≤ m.length
  | [], _, _, _ => Nat.zero_le _
  | x :: l, m, hn, hs => by
    rw [List.nodup_cons] at hn
    have hx := hs x (by simp)
    have h := nodup_len l (m.erase x) hn.2 (fun y hy => (List.mem_erase_of_ne (fun (e : y = x) => hn.1 (e ▸ hy))).2 (hs y (by simp [hy])))
    rw [List.length_erase_of_mem hx] at h
    have := List.length_pos_of_mem hx
    rw [List.length_cons]
    omega
theorem heap_alloc_old1 (w : World) (o : Obj) (k : Nat) (h : k < w.heap.size) : (w.alloc o).heap[k]? = w.heap[k]? := Below.heap_alloc w o k h
def sliceLnD : Value → Nat
  | .slice _ n _ => n
  | _ => 0
set_option maxRecDepth 10000 in
set_option maxHeartbeats 1000000 in
theorem files_any {ex : Int → Prop} (w : World) {p mb : Nat} {F : Int → Option Value} {ks : List Int} {X : Nat → Prop} {D : Dk} (h : DiskX ex w p mb F ks X D) :
    Calls Try.prog 57 #[.pointer (some ⟨p, 0, none⟩)] w (RetMade w 3 (D.files.map (Value.int .i64))) := by
  have c2 := h.c2
  have hkl : ks.length ≤ 64 := by
    have hp := (List.perm_ext_iff_of_nodup h.map.nodup (files_nodup D)).2 h.keys
    rw [hp.length_eq]
    exact files_len D
  have hlen := h.map.len (P := Try.prog) (t := 94) (K := 3) (e := 105) Try.underlyingMapF 3
  obtain ⟨ii, hi, hz, hsz, hby⟩ := info_parts Try.infoI
  obtain ⟨w1, hmk, O1, g1⟩ := run_make_own (P := Try.prog) w w.heap.size 22 3 ii _ 1 Try.underlying22 hi hz hsz .i64 .i64 ks.length (by rw [hby]; omega) (by unfold maxLen; omega) (Nat.le_refl _)
  have B1 : Below w.heap.size w w1 := (Below.refl _ w).grown g1 (Nat.le_refl _) (fun g hg => by cases hg)
  have H1 := h.later B1
  have c21 := H1.c2
  have hl1 := O1.lt w.heap.size rfl
  obtain ⟨w2, hrg, r2, hx, g2, s2⟩ := H1.map.range (P := Try.prog) (t := 94) (K := 3) (e := 105) Try.underlyingMapF
  have B2 : Below w.heap.size w w2 := B1.grown g2 B1.size (fun g hg => by cases hg)
  have O2 := own_same (w' := w2) O1 (fun x hx => g2.block x (O1.lt x hx).2 (by simp))
  have HK := Lib.hid h.keys
  have HM := Lib.hid h.map.lt
  have hnd := h.map.nodup
  have hnd' := hnd
  clear h hnd hnd' g1 s2 g2 hi hz hsz hby hx
  go_enter Try.func57, Try.ntmps57
  go_wp2_with fail
  have hrr : w.heap.size ≠ w1.heap.size := by omega
  have hmr := H1.map.lt
  have hrw : w.heap.size ≤ w1.heap.size := B1.size
  have hmw := HM.out
  generalize w1.heap.size = r at r2 hrr hmr hrw ⊢
  clear hmk hrg hlen c2 c21 O1 B1 H1 hl1
  go_loopw [3] (fun u W => ∃ (done : List Int) (a : Option Addr) (c : Nat), u = .slice a done.length c ∧ RangeF W mb r F ks done ∧ W.ownsRow w.heap.size 3 1 (.slice a done.length c) done.length (done.map (Value.int .i64)) ∧ (∀ b, (Value.slice a done.length c).ownBlock = some b → b ≠ r) ∧ Below w.heap.size w W) (fun u _ => ks.length - sliceLnD u)
  case atStart => exact ⟨[], _, _, rfl, r2, O2, (fun b hb => by cases hb; exact hrr), B2⟩
  case round =>
    rename World => W
    obtain ⟨done, a, c, rfl, R, O, hbr, B⟩ := hrel
    have hsub := R.sub
    have HU := Lib.hid hsub
    clear hsub
    rcases R.next (P := Try.prog) 0 with ⟨hall, hnx⟩ | ⟨k, v, W1, hkd, hkk, hFk, hnx, R1, g1, s1, hent⟩
    · have HALL := Lib.hid hall
      clear hall
      go_wp2_with fail
      have hd64 : done.length ≤ 1000000 := by
        have := nodup_len _ _ HU.out.1 HU.out.2
        omega
      refine (sort_any done a c W O hd64).mono ?_
      rintro e W2 ⟨rfl, O2, g2⟩
      go_wp2_with fail
      go_ret
      rw [sort_files D done HU.out.1 (fun k => ⟨fun hk => (HK.out k).1 (HU.out.2 k hk), fun hk => HALL.out k ((HK.out k).2 hk)⟩)] at O2
      exact retMade O2 rfl (B.grown g2 B.size (fun g hg => (O.lt g hg).1))
    · have O1 := own_same (w' := W1) O (fun x hx => g1.block x ((O.lt x hx).2) (fun e => absurd rfl (by cases e; exact hbr _ hx)))
      have S1 := Lib.hid s1
      have H1 := R1.sub
      have hdl : (done ++ [k]).length ≤ ks.length := nodup_len _ _ H1.1 H1.2
      rw [List.length_append, List.length_singleton] at hdl
      have h64 : done.length ≤ 64 := by omega
      have hbw : w.heap.size ≤ W1.heap.size := by rw [s1]; exact B.size
      have HD := Lib.hid hdl
      clear s1 H1 hdl
      go_wp2_with (at_builtin; go_loud (refine wpList_app2 _ rfl _ _ rfl Try.elI w.heap.size _ done.length _ rfl (O1.alloc _) _ 1 [.int .i64 k] rfl (Rv.one _ _ _) rfl (ones1 _ rfl) (by omega) (by simp; omega) ?_; intro v5 w5 O5 g5 s5; refine later ?_))
      refine Later.in ?_
      have hsz1 : (W1.alloc (.cells #[.int .i64 k] 3)).heap.size = W1.heap.size + 1 := by simp
      have hga := heap_alloc_old1 W1 (.cells #[.int .i64 k] 3)
      replace g5 : (W1.alloc (.cells #[.int .i64 k] 3)).grownBy w5 (Value.slice a done.length c).ownBlock := g5
      replace s5 : SameOrNew (W1.alloc (.cells #[.int .i64 k] 3)) (Value.slice a done.length c) v5 := s5
      have hO1 := O1.lt
      have hbr1 : ∀ b, v5.ownBlock = some b → b ≠ r := fun b hb => by
        rcases s5 with h | h
        · rw [h] at hb; exact hbr b hb
        · have h1 := h b hb
          have h2 := R1.lt
          simp at h1
          omega
      have R5 : RangeF w5 mb r F ks (done ++ [k]) := R1.kept
        ((g5.block mb (by omega) (fun e => by have := (hO1 mb e.symm).1; omega)).trans (hga mb (by omega)))
        ((g5.block r (by have := R1.lt; omega) (fun e => hbr r e.symm rfl)).trans (hga r R1.lt))
      have B5 : Below w.heap.size w w5 := ((B.grown g1 B.size (fun g hg => by cases hg; exact hrw)).alloc hbw _).grown g5 (by omega) (fun g hg => (hO1 g hg).1)
      have hn5 : (done ++ [k]).length = done.length + 1 := by simp
      have hO5 : w5.ownsRow w.heap.size 3 1 v5 (done ++ [k]).length ((done ++ [k]).map (Value.int .i64)) := by
        rw [hn5, List.map_append]
        exact O5
      obtain ⟨a5, c5, rfl⟩ := own_isSlice O5
      go_wp2_with fail
      refine ⟨⟨done ++ [k], a5, c5, by rw [hn5], R5, ?_, ?_, B5⟩, ?_⟩
      · rw [hn5] at hO5 ⊢; exact hO5
      · rw [hn5]; exact hbr1
      have := HD.out
      simp [sliceLnD]
      omega
end Go.Proofs.Ytpehnggglolnoaa

/- Package disk: harden. -/
namespace Go.Proofs.Ytpehnggglolnoaa
open Go.RowKit

def Dk.hardL (D : Dk) (l : List Int) : Dk := { D with fs := fun k => if k ∈ l then ((D.fs k).1, (D.fs k).1.length) else D.fs k }
def Dk.harden (D : Dk) : Dk := { D with fs := fun k => ((D.fs k).1, (D.fs k).1.length) }
theorem hardL_nil (D : Dk) : D.hardL [] = D := by simp [Dk.hardL]
theorem hardL_snoc (D : Dk) (l : List Int) (k : Int) (h : (D.fs k).1 ≠ []) : D.hardL (l ++ [k]) = (D.hardL l).put k (D.fs k).1 (D.fs k).1.length := by
  simp only [Dk.hardL, Dk.put, if_neg h]
  congr 1
  funext j
  by_cases hj : j = k
  · subst hj; simp
  · simp [hj]
theorem hardL_all (D : Dk) (h0 : ∀ k, (D.fs k).1 = [] → (D.fs k).2 = 0) (h1 : ∀ k, (D.fs k).1 ≠ [] → 0 ≤ k ∧ k < 64) : D.hardL D.files = D.harden := by
  simp only [Dk.hardL, Dk.harden]
  congr 1
  funext k
  by_cases hk : k ∈ D.files
  · rw [if_pos hk]
  · rw [if_neg hk]
    have he : (D.fs k).1 = [] := Decidable.byContradiction fun he => hk ((files_mem D k).2 ⟨(h1 k he).1, (h1 k he).2, he⟩)
    rw [he, ← Prod.eta (D.fs k), he, h0 k he]
    rfl
theorem hardL_len (D : Dk) (l : List Int) (k : Int) : ((D.hardL l).fs k).1 = (D.fs k).1 := by
  simp only [Dk.hardL]; split <;> rfl
theorem DiskX.sameX {ex : Int → Prop} {w : World} {p mb : Nat} {F : Int → Option Value} {ks : List Int} {X Y : Nat → Prop} {D : Dk} (h : DiskX ex w p mb F ks Y D) (e : ∀ x, Y x ↔ X x) : DiskX ex w p mb F ks X D := by
  rw [show X = Y from funext fun x => propext (e x).symm]
  exact h
theorem DiskX.full {w : World} {p mb : Nat} {F : Int → Option Value} {ks : List Int} {X : Nat → Prop} {D : Dk} (h : DiskAt w p mb F ks X D) {k : Int} (he : (D.fs k).1 ≠ []) {a : Option Addr} {n c : Nat} {d : Int} (hl : (F k).getD (.agg #[.slice none 0 0, .int .i64 0]) = .agg #[.slice a n c, .int .i64 d]) : F k = some (.agg #[.slice a n c, .int .i64 d]) := by
  obtain ⟨_, _, a', c', hF⟩ := h.ful k he
  rw [hF] at hl ⊢
  exact congrArg some hl
/-- Another number of durable bytes. -/
theorem DiskX.redur {w w' : World} {p mb : Nat} {F F' : Int → Option Value} {ks ks' : List Int} {X : Nat → Prop} {D : Dk} (h : DiskAt w p mb F ks X D) {k : Int} (hk : 0 ≤ k ∧ k < 64) {bs : List UInt8} (hbs : (D.fs k).1 = bs) (he : bs ≠ []) {a : Option Addr} {c d : Nat} {d0 : Int} (hl : F k = some (.agg #[.slice a bs.length c, .int .i64 d0]))
    (hd : d ≤ bs.length) (hm : MapF w' mb F' ks') (hF : ∀ x, F' x = if x = k then some (.agg #[.slice a bs.length c, .int .i64 (d : Int)]) else F x) (hg : w.grownBy w' (some mb)) : DiskAt w' p mb F' ks' X (D.put k bs d) := by
  have hu : (D.put k bs d).used = D.used := by
    have := D.used_put k bs d hk.1 hk.2
    rw [hbs] at this
    omega
  obtain ⟨h1, h2⟩ := h.row k _ _ id hl
  rw [hbs] at h1
  refine ((h.weak (fun j => j = k)).putted hk.1 hk.2 (b := bs) (a := a) (c := c) (d := d) h1 (fun x hx => ⟨(h2 x hx).2.1, (h2 x hx).2.2, fun j u e hj hFj => h.sep k j _ _ _ _ x id id (fun e => hj e.symm) hl hFj hx⟩) hd (by rw [hu]; exact h.used) ?_ hm (fun x => by rw [hF, if_neg he]) ?_).sameX ?_
  · rw [hg.block p h.lt (fun e => h.pm (Option.some.inj e)), h.blk]
    unfold dkO
    rw [hu]
    rfl
  · exact ⟨hg.os, hg.tape, hg.output, hg.size, fun x hx _ hxm => hg.block x hx (fun e => hxm (Option.some.inj e))⟩
  · exact fun x => ⟨fun hx => hx.elim id (fun hx => (h2 x hx).1), .inl⟩
set_option maxRecDepth 10000 in
set_option maxHeartbeats 1000000 in
theorem harden_any (w : World) {p mb : Nat} {F : Int → Option Value} {ks : List Int} {X : Nat → Prop} {D : Dk} (h : DiskAt w p mb F ks X D) :
    Calls Try.prog 60 #[.pointer (some ⟨p, 0, none⟩)] w fun e w' => e = .returned (.tuple #[]) ∧ ∃ F' ks', DiskAt w' p mb F' ks' X D.harden ∧ DStep X X w w' := by
  go_enter Try.func60, Try.ntmps60
  go_wp2_with fail
  refine (files_any w h).mono ?_
  rintro e w1 ⟨v, rfl, hM⟩
  have hM1 := hM.1
  rw [List.length_map] at hM1
  obtain ⟨a, c, rfl⟩ := own_isSlice hM1
  have H1 := h.later hM.2
  have S1 := DStep.ofBelow X hM.2
  have HX := Lib.hid h.xl
  have HF := Lib.hid (hardL_all D (fun k hk => (h.emp k hk).2) (fun k hk => ⟨(h.ful k hk).1, (h.ful k hk).2.1⟩))
  have hfl := files_len D
  have HMEM := Lib.hid (files_mem D)
  obtain ⟨fl, hfe⟩ : ∃ l, D.files = l := ⟨_, rfl⟩
  rw [hfe] at hM1 HF hfl HMEM ⊢
  obtain ⟨n, hn⟩ : ∃ n, fl.length = n := ⟨_, rfl⟩
  rw [hn] at hM1 hfl ⊢
  have HN := Lib.hid hn
  clear hM hn hfe h
  go_wp2_with fail
  go_loopw [8] (fun u W => ∃ (i : Nat) (F' : Int → Option Value) (ks' : List Int), u = .int .i64 (i : Int) ∧ i ≤ n ∧ DiskAt W p mb F' ks' X (D.hardL (fl.take i)) ∧ W.ownsRow w.heap.size 3 1 (.slice a n c) n (fl.map (Value.int .i64)) ∧ DStep X X w W) (fun u _ => n - (match u with | .int _ k => k.toNat | _ => 0))
  case atStart => exact ⟨0, F, ks, rfl, Nat.zero_le _, by rw [List.take_zero, hardL_nil]; exact H1, hM1, S1⟩
  case round =>
    rename World => W
    obtain ⟨i, F2, ks2, rfl, hin, H2, O2, S2⟩ := hrel
    by_cases hlt : i < n
    · obtain ⟨k, hk⟩ : ∃ k, fl[i]? = some k := ⟨_, List.getElem?_eq_getElem (by rw [HN.out]; exact hlt)⟩
      have hkm := (HMEM.out k).1 (List.mem_of_getElem? hk)
      obtain ⟨g, off, ha, hc⟩ := (Rd.cell (by
        obtain ⟨a', c', e, _, hr⟩ := (Rv.of_own O2).opened
        injection e with e1
        rw [← e1] at hr
        exact hr) (i := i) (u := .int .i64 k) (by rw [List.getElem?_map, hk]; rfl))
      subst ha
      obtain ⟨a2, c2, hlook, hown, hblk⟩ := H2.old k
      have hln : (D.fs k).1.length = ((D.hardL (fl.take i)).fs k).1.length := by rw [hardL_len]
      have hlk := H2.look2 k hlook W rfl
      have hc2 := H2.c2
      have hgX : ∀ x, X x → x < w.heap.size := HX.out
      have hgb : w.heap.size ≤ g := (O2.lt g rfl).1
      have hEl : ((D.hardL (fl.take i)).fs k).1 = (D.fs k).1 := hardL_len D _ k
      have hsn := hardL_snoc D (fl.take i) k hkm.2.2
      rw [← hEl] at hsn
      have ht1 : fl.take (i + 1) = fl.take i ++ [k] := by rw [List.take_add_one, hk]; rfl
      rw [← ht1] at hsn
      have hne : ((D.hardL (fl.take i)).fs k).1 ≠ [] := by rw [hEl]; exact hkm.2.2
      obtain ⟨E, hE⟩ : ∃ E, D.hardL (fl.take i) = E := ⟨_, rfl⟩
      rw [hE] at H2 hlook hown hblk hlk hsn hne
      obtain ⟨bs, hbs⟩ : ∃ b, (E.fs k).1 = b := ⟨_, rfl⟩
      rw [hbs] at hlook hown hlk hsn hne
      obtain ⟨d0, hd0⟩ : ∃ b, (E.fs k).2 = b := ⟨_, rfl⟩
      rw [hd0] at hlook hlk
      have hFk := H2.full (by rw [hbs]; exact hne) hlook
      have HSN := Lib.hid hsn
      have HNE := Lib.hid hne
      have HBS := Lib.hid hbs
      have HFK := Lib.hid hFk
      clear hsn hne hbs hFk hlook hE hEl hln hd0 ht1 hblk hk
      go_upto_region 5 with fail
      have BA := (Below.refl W.heap.size W).alloc (Nat.le_refl _) (.cells #[.slice a2 bs.length c2, .int .i64 (bs.length : Int)] 105)
      have hf := World.alloc_heap_new W (.cells #[.slice a2 bs.length c2, .int .i64 (bs.length : Int)] 105)
      have H3 := H2.later BA
      have O3 := own_below O2 BA
      have S3 := S2.trans (DStep.ofBelow X BA)
      generalize W.alloc (.cells #[.slice a2 bs.length c2, .int .i64 (bs.length : Int)] 105) = w3 at hf H3 O3 S3 ⊢
      generalize W.heap.size = fb at hf ⊢
      have f0d : w3.drew.cell? ⟨fb, 0, none⟩ = some (.slice a2 bs.length c2) := by show w3.cell? _ = _; simp [World.cell?, hf]
      have f1d : w3.drew.cell? ⟨fb, 1, none⟩ = some (.int .i64 (bs.length : Int)) := by show w3.cell? _ = _; simp [World.cell?, hf]
      have c2d : w3.drew.cell? ⟨p, 2, none⟩ = some (.map (some mb)) := H3.c2
      clear H2 O2 S2 hlk hc2 BA hc
      go_still_tail 6, (by kernel_rfl)
      change wpList _ _ _ _ _ w3.drew
      have H4 := H3.later (Below.refl _ _).drew
      have O4 := own_below O3 (Below.refl _ _).drew
      have S4 := S3.trans (DStep.ofBelow X (Below.refl _ _).drew)
      clear H3 O3 S3 hf
      generalize w3.drew = w4 at H4 O4 S4 f0d f1d c2d ⊢
      refine wpList_update_F (v := .agg #[.slice a2 bs.length c2, .int .i64 (bs.length : Int)]) rfl _ _ _ rfl Try.underlyingMapF (by kernel_rfl) rfl rfl rfl H4.map ?_
      intro w5 hm5 g5 s5
      have H5 := H4.redur ⟨hkm.1, hkm.2.1⟩ HBS.out HNE.out HFK.out (Nat.le_refl _) hm5 (fun x => rfl) g5
      rw [← HSN.out] at H5
      have hmx := H4.xm
      have S5 : DStep X X w w5 := S4.trans ⟨g5.os, g5.tape, g5.output, g5.size, fun x hx hX => g5.block x hx (fun e => hX (by cases e; exact hmx)), fun x hx => .inl hx⟩
      have O5 := own_same (w' := w5) O4 (fun x hx => g5.block x (O4.lt x hx).2 (fun e => by
        have h1 := (O4.lt x hx).1
        have h2 := hgX mb hmx
        have h3 := Option.some.inj e
        omega))
      clear H4 O4 S4 hm5 g5 s5 f0d f1d c2d
      go_wp2_with fail
      refine ⟨⟨i + 1, _, _, by simp, hlt, H5, O5, S5⟩, ?_⟩
      show n - ((i : Int) + 1).toNat < n - ((i : Int)).toNat
      omega
    · obtain rfl : i = n := by omega
      have ht : fl.take i = fl := List.take_of_length_le (by rw [HN.out]; exact Nat.le_refl _)
      rw [ht, HF.out] at H2
      go_wp2_with fail
      go_end0
      exact ⟨rfl, F2, ks2, H2, S2⟩
end Go.Proofs.Ytpehnggglolnoaa
