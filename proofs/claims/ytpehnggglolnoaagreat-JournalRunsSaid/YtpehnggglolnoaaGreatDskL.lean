/- Several texts in one: DskF DskG DskH DskI DskJ DskK DskL. -/
import Derived.Test.YtpehnggglolnoaaGreatDskE
import Derived.Test.YtpehnggglolnoaaGreatLay189
import Derived.Sort.OwnSortedInts
import Derived.Deep.Cut
import Derived.Deep.CutRange
import Derived.Test.YtpehnggglolnoaaGreatHashM
import Derived.Deep.QuietTactic
/- Package disk: Files. -/
namespace Go.Proofs.YtpehnggglolnoaaGreat
open Go.RowKit

/-- The numbers of the files that are not empty, in their order. -/
def Dk.files (D : Dk) : List Int := ((List.range 64).filter fun (i : Nat) => !(D.fs (i : Int)).1.isEmpty).map fun (i : Nat) => (i : Int)
theorem files_mem (D : Dk) (k : Int) : k ∈ D.files ↔ 0 ≤ k ∧ k < 64 ∧ (D.fs k).1 ≠ [] := by
  simp only [Dk.files, List.mem_map, List.mem_filter, List.mem_range, Bool.not_eq_true', List.isEmpty_eq_false_iff]
  constructor
  · rintro ⟨i, ⟨h1, h2⟩, rfl⟩
    exact ⟨by omega, by omega, h2⟩
  · rintro ⟨h1, h2, h3⟩
    refine ⟨k.toNat, ⟨by omega, ?_⟩, by omega⟩
    rw [show ((k.toNat : Nat) : Int) = k by omega]
    exact h3
theorem files_sorted (D : Dk) : D.files.Pairwise (fun a b => a < b) := by
  unfold Dk.files
  rw [List.pairwise_map]
  exact (List.pairwise_lt_range.filter _).imp (fun h => by omega)
theorem files_nodup (D : Dk) : D.files.Nodup := (files_sorted D).imp (fun h => by omega)
theorem sort_files (D : Dk) (l : List Int) (hn : l.Nodup) (hm : ∀ k, k ∈ l ↔ k ∈ D.files) : (l.mergeSort fun x y => decide (x ≤ y)) = D.files := by
  have hp : (l.mergeSort fun x y => decide (x ≤ y)).Perm D.files := (List.mergeSort_perm l _).trans ((List.perm_ext_iff_of_nodup hn (files_nodup D)).2 hm)
  refine List.Perm.eq_of_pairwise (le := fun a b => a ≤ b) (fun a b _ _ h1 h2 => by omega) ?_ ((files_sorted D).imp (fun h => by omega)) hp
  have := List.pairwise_mergeSort (le := fun (x y : Int) => decide (x ≤ y)) (fun a b c h1 h2 => by simp only [decide_eq_true_eq] at *; omega) (fun a b => by simp only [Bool.or_eq_true, decide_eq_true_eq]; omega) l
  exact this.imp (fun h => by simpa using h)
theorem DiskX.keys {ex : Int → Prop} {w : World} {p mb : Nat} {F : Int → Option Value} {ks : List Int} {X : Nat → Prop} {D : Dk} (h : DiskX ex w p mb F ks X D) (k : Int) : k ∈ ks ↔ k ∈ D.files := by
  rw [h.map.mem k, files_mem]
  constructor
  · rintro ⟨v, hv⟩
    by_cases he : (D.fs k).1 = []
    · rw [(h.emp k he).1] at hv; cases hv
    · obtain ⟨h1, h2, _⟩ := h.ful k he
      exact ⟨h1, h2, he⟩
  · rintro ⟨_, _, he⟩
    obtain ⟨_, _, a, c, hF⟩ := h.ful k he
    exact ⟨_, hF⟩
theorem files_len (D : Dk) : D.files.length ≤ 64 := by
  unfold Dk.files
  rw [List.length_map]
  exact Nat.le_trans (List.length_filter_le _ _) (by simp)
/-- slices.Sort at a row that is the caller's own. -/
theorem sort_any {base : Nat} (l : List Int) (a : Option Addr) (c : Nat) (w : World) (hO : w.ownsRow base 3 1 (.slice a l.length c) l.length (l.map (Value.int .i64))) (hl : l.length ≤ 1000000) :
    Calls Tryz.prog 49 #[.slice a l.length c] w fun e w' => e = .returned (.tuple #[]) ∧ w'.ownsRow base 3 1 (.slice a l.length c) l.length ((l.mergeSort fun x y => decide (x ≤ y)).map (Value.int .i64)) ∧ w.grownBy w' (Value.slice a l.length c).ownBlock := by
  rcases hO.2 with ⟨hnil, hk0⟩ | ⟨g, cap, cur, hv, hbase, hb, h1, h2, h3, h4⟩
  · injection hnil with e1 e2 e3
    subst e1 e3
    obtain rfl : l = [] := List.eq_nil_of_length_eq_zero e2
    refine (Any.slices_Sort_int_none lays189 none 0 w).mono ?_
    rintro e w' ⟨rfl, rfl⟩
    exact ⟨rfl, by simpa using hO, World.grownBy.refl _ _⟩
  · injection hv with e1 e2 e3
    subst e1 e3
    have hH : Go.Sort.Holds (Value.int .i64) w g 0 l.toArray := holds_of_blockI hb (by simpa using h4)
    have hgl : g < w.heap.size := (Array.getElem?_eq_some_iff.1 hb).1
    refine (Any.slices_Sort_int lays189 g 0 c l w hH hgl (by omega)).mono ?_
    rintro e w' ⟨rfl, nn, os, rfl⟩
    have hl2 : (l.mergeSort fun x y => decide (x ≤ y)).length = l.length := List.length_mergeSort l
    exact ⟨rfl, ownsRow_sortedI (n := nn) (os := os) (ts := l.mergeSort fun x y => decide (x ≤ y)) hl2 hbase hb h1 h2 h3, grownBy_sortedI _⟩
theorem nodup_len : ∀ (l m : List Int), l.Nodup → (∀ x ∈ l, x ∈ m) → l.length ≤ m.length
  | [], _, _, _ => Nat.zero_le _
  | x :: l, m, hn, hs => by
    rw [List.nodup_cons] at hn
    have hx := hs x (by simp)
    have h := nodup_len l (m.erase x) hn.2 (fun y hy => (List.mem_erase_of_ne (fun (e : y = x) => hn.1 (e ▸ hy))).2 (hs y (by simp [hy])))
    rw [List.length_erase_of_mem hx] at h
    have := List.length_pos_of_mem hx
    rw [List.length_cons]
    omega
theorem heap_alloc_old1 (w : World) (o : Obj) (k : Nat) (h : k < w.heap.size) : (w.alloc o).heap[k]? = w.heap[k]? := Below.heap_alloc w o k h
theorem own_isSlice {w : World} {base : Nat} {e : TypeId} {v : Value} {n : Nat} {xs : List Value} (h : w.ownsRow base e 1 v n xs) : ∃ a c, v = .slice a n c := by
  rcases h.2 with ⟨rfl, rfl⟩ | ⟨g, cap, cur, rfl, _⟩
  · exact ⟨_, _, rfl⟩
  · exact ⟨_, _, rfl⟩
def sliceLnD : Value → Nat
  | .slice _ n _ => n
  | _ => 0
set_option maxRecDepth 10000 in
set_option maxHeartbeats 1000000 in
theorem files_any {ex : Int → Prop} (w : World) {p mb : Nat} {F : Int → Option Value} {ks : List Int} {X : Nat → Prop} {D : Dk} (h : DiskX ex w p mb F ks X D) :
    Calls Tryz.prog 29 #[.pointer (some ⟨p, 0, none⟩)] w (RetMade w 3 (D.files.map (Value.int .i64))) := by
  have c2 := h.c2
  have hkl : ks.length ≤ 64 := by
    have hp := (List.perm_ext_iff_of_nodup h.map.nodup (files_nodup D)).2 h.keys
    rw [hp.length_eq]
    exact files_len D
  have hlen := h.map.len (P := Tryz.prog) (t := 60) (K := 3) (e := 65) Tryz.underlyingMapF 3
  obtain ⟨ii, hi, hz, hsz, hby⟩ := info_parts Tryz.infoI
  obtain ⟨w1, hmk, O1, g1⟩ := run_make_own (P := Tryz.prog) w w.heap.size 22 3 ii _ 1 Tryz.underlying22 hi hz hsz .i64 .i64 ks.length (by rw [hby]; omega) (by unfold maxLen; omega) (Nat.le_refl _)
  have B1 : Below w.heap.size w w1 := (Below.refl _ w).grown g1 (Nat.le_refl _) (fun g hg => by cases hg)
  have H1 := h.later B1
  have c21 := H1.c2
  have hl1 := O1.lt w.heap.size rfl
  obtain ⟨w2, hrg, r2, hx, g2, s2⟩ := H1.map.range (P := Tryz.prog) (t := 60) (K := 3) (e := 65) Tryz.underlyingMapF
  have B2 : Below w.heap.size w w2 := B1.grown g2 B1.size (fun g hg => by cases hg)
  have O2 := own_same (w' := w2) O1 (fun x hx => g2.block x (O1.lt x hx).2 (by simp))
  have HK := Lib.hid h.keys
  have HM := Lib.hid h.map.lt
  have hnd := h.map.nodup
  have hnd' := hnd
  clear h hnd hnd' g1 s2 g2 hi hz hsz hby hx
  go_enter Tryz.func29, Tryz.ntmps29
  go_wp2_with fail
  have hrr : w.heap.size ≠ w1.heap.size := by omega
  have hmr := H1.map.lt
  have hrw : w.heap.size ≤ w1.heap.size := B1.size
  have hmw := HM.out
  generalize w1.heap.size = r at r2 hrr hmr hrw ⊢
  clear hmk hrg hlen c2 c21 O1 B1 H1 hl1
  go_loopw [3] (fun u W => ∃ (done : List Int) (a : Option Addr) (c : Nat), u = .slice a done.length c ∧ RangeF W mb r F ks done ∧ W.ownsRow w.heap.size 3 1 (.slice a done.length c) done.length (done.map (Value.int .i64)) ∧ (∀ b, (Value.slice a done.length c).ownBlock = some b → b ≠ r) ∧ Below w.heap.size w W) (fun u _ => ks.length - sliceLnD u)
  case atStart => exact ⟨[], _, _, rfl, r2, O2, (fun b hb => by cases hb; exact hrr), B2⟩
  case round =>
    rename World => W
    obtain ⟨done, a, c, rfl, R, O, hbr, B⟩ := hrel
    have hsub := R.sub
    have HU := Lib.hid hsub
    clear hsub
    rcases R.next (P := Tryz.prog) 0 with ⟨hall, hnx⟩ | ⟨k, v, W1, hkd, hkk, hFk, hnx, R1, g1, s1, hent⟩
    · have HALL := Lib.hid hall
      clear hall
      go_wp2_with fail
      have hd64 : done.length ≤ 1000000 := by
        have := nodup_len _ _ HU.out.1 HU.out.2
        omega
      refine (sort_any done a c W O hd64).mono ?_
      rintro e W2 ⟨rfl, O2, g2⟩
      go_wp2_with fail
      go_ret
      rw [sort_files D done HU.out.1 (fun k => ⟨fun hk => (HK.out k).1 (HU.out.2 k hk), fun hk => HALL.out k ((HK.out k).2 hk)⟩)] at O2
      exact retMade O2 rfl (B.grown g2 B.size (fun g hg => (O.lt g hg).1))
    · have O1 := own_same (w' := W1) O (fun x hx => g1.block x ((O.lt x hx).2) (fun e => absurd rfl (by cases e; exact hbr _ hx)))
      have S1 := Lib.hid s1
      have H1 := R1.sub
      have hdl : (done ++ [k]).length ≤ ks.length := nodup_len _ _ H1.1 H1.2
      rw [List.length_append, List.length_singleton] at hdl
      have h64 : done.length ≤ 64 := by omega
      have hbw : w.heap.size ≤ W1.heap.size := by rw [s1]; exact B.size
      have HD := Lib.hid hdl
      clear s1 H1 hdl
      go_wp2_with (at_builtin; go_loud (refine wpList_app2 _ rfl _ _ rfl Tryz.elI w.heap.size _ done.length _ rfl (O1.alloc _) _ 1 [.int .i64 k] rfl (Rv.one _ _ _) rfl (ones1 _ rfl) (by omega) (by simp; omega) ?_; intro v5 w5 O5 g5 s5; refine later ?_))
      refine Later.in ?_
      have hsz1 : (W1.alloc (.cells #[.int .i64 k] 3)).heap.size = W1.heap.size + 1 := by simp
      have hga := heap_alloc_old1 W1 (.cells #[.int .i64 k] 3)
      replace g5 : (W1.alloc (.cells #[.int .i64 k] 3)).grownBy w5 (Value.slice a done.length c).ownBlock := g5
      replace s5 : SameOrNew (W1.alloc (.cells #[.int .i64 k] 3)) (Value.slice a done.length c) v5 := s5
      have hO1 := O1.lt
      have hbr1 : ∀ b, v5.ownBlock = some b → b ≠ r := fun b hb => by
        rcases s5 with h | h
        · rw [h] at hb; exact hbr b hb
        · have h1 := h b hb
          have h2 := R1.lt
          simp at h1
          omega
      have R5 : RangeF w5 mb r F ks (done ++ [k]) := R1.kept
        ((g5.block mb (by omega) (fun e => by have := (hO1 mb e.symm).1; omega)).trans (hga mb (by omega)))
        ((g5.block r (by have := R1.lt; omega) (fun e => hbr r e.symm rfl)).trans (hga r R1.lt))
      have B5 : Below w.heap.size w w5 := ((B.grown g1 B.size (fun g hg => by cases hg; exact hrw)).alloc hbw _).grown g5 (by omega) (fun g hg => (hO1 g hg).1)
      have hn5 : (done ++ [k]).length = done.length + 1 := by simp
      have hO5 : w5.ownsRow w.heap.size 3 1 v5 (done ++ [k]).length ((done ++ [k]).map (Value.int .i64)) := by
        rw [hn5, List.map_append]
        exact O5
      obtain ⟨a5, c5, rfl⟩ := own_isSlice O5
      go_wp2_with fail
      refine ⟨⟨done ++ [k], a5, c5, by rw [hn5], R5, ?_, ?_, B5⟩, ?_⟩
      · rw [hn5] at hO5 ⊢; exact hO5
      · rw [hn5]; exact hbr1
      have := HD.out
      simp [sliceLnD]
      omega
end Go.Proofs.YtpehnggglolnoaaGreat

/- Package disk: harden. -/
namespace Go.Proofs.YtpehnggglolnoaaGreat
open Go.RowKit

def Dk.hardL (D : Dk) (l : List Int) : Dk := { D with fs := fun k => if k ∈ l then ((D.fs k).1, (D.fs k).1.length) else D.fs k }
def Dk.harden (D : Dk) : Dk := { D with fs := fun k => ((D.fs k).1, (D.fs k).1.length) }
theorem hardL_nil (D : Dk) : D.hardL [] = D := by simp [Dk.hardL]
theorem hardL_snoc (D : Dk) (l : List Int) (k : Int) (h : (D.fs k).1 ≠ []) : D.hardL (l ++ [k]) = (D.hardL l).put k (D.fs k).1 (D.fs k).1.length := by
  simp only [Dk.hardL, Dk.put, if_neg h]
  congr 1
  funext j
  by_cases hj : j = k
  · subst hj; simp
  · simp [hj]
theorem hardL_all (D : Dk) (h0 : ∀ k, (D.fs k).1 = [] → (D.fs k).2 = 0) (h1 : ∀ k, (D.fs k).1 ≠ [] → 0 ≤ k ∧ k < 64) : D.hardL D.files = D.harden := by
  simp only [Dk.hardL, Dk.harden]
  congr 1
  funext k
  by_cases hk : k ∈ D.files
  · rw [if_pos hk]
  · rw [if_neg hk]
    have he : (D.fs k).1 = [] := Decidable.byContradiction fun he => hk ((files_mem D k).2 ⟨(h1 k he).1, (h1 k he).2, he⟩)
    rw [he, ← Prod.eta (D.fs k), he, h0 k he]
    rfl
theorem hardL_len (D : Dk) (l : List Int) (k : Int) : ((D.hardL l).fs k).1 = (D.fs k).1 := by
  simp only [Dk.hardL]; split <;> rfl
theorem DiskX.sameX {ex : Int → Prop} {w : World} {p mb : Nat} {F : Int → Option Value} {ks : List Int} {X Y : Nat → Prop} {D : Dk} (h : DiskX ex w p mb F ks Y D) (e : ∀ x, Y x ↔ X x) : DiskX ex w p mb F ks X D := by
  rw [show X = Y from funext fun x => propext (e x).symm]
  exact h
theorem DiskX.full {w : World} {p mb : Nat} {F : Int → Option Value} {ks : List Int} {X : Nat → Prop} {D : Dk} (h : DiskAt w p mb F ks X D) {k : Int} (he : (D.fs k).1 ≠ []) {a : Option Addr} {n c : Nat} {d : Int} (hl : (F k).getD (.agg #[.slice none 0 0, .int .i64 0]) = .agg #[.slice a n c, .int .i64 d]) : F k = some (.agg #[.slice a n c, .int .i64 d]) := by
  obtain ⟨_, _, a', c', hF⟩ := h.ful k he
  rw [hF] at hl ⊢
  exact congrArg some hl
/-- Another number of durable bytes. -/
theorem DiskX.redur {w w' : World} {p mb : Nat} {F F' : Int → Option Value} {ks ks' : List Int} {X : Nat → Prop} {D : Dk} (h : DiskAt w p mb F ks X D) {k : Int} (hk : 0 ≤ k ∧ k < 64) {bs : List UInt8} (hbs : (D.fs k).1 = bs) (he : bs ≠ []) {a : Option Addr} {c d : Nat} {d0 : Int} (hl : F k = some (.agg #[.slice a bs.length c, .int .i64 d0]))
    (hd : d ≤ bs.length) (hm : MapF w' mb F' ks') (hF : ∀ x, F' x = if x = k then some (.agg #[.slice a bs.length c, .int .i64 (d : Int)]) else F x) (hg : w.grownBy w' (some mb)) : DiskAt w' p mb F' ks' X (D.put k bs d) := by
  have hu : (D.put k bs d).used = D.used := by
    have := D.used_put k bs d hk.1 hk.2
    rw [hbs] at this
    omega
  obtain ⟨h1, h2⟩ := h.row k _ _ id hl
  rw [hbs] at h1
  refine ((h.weak (fun j => j = k)).putted hk.1 hk.2 (b := bs) (a := a) (c := c) (d := d) h1 (fun x hx => ⟨(h2 x hx).2.1, (h2 x hx).2.2, fun j u e hj hFj => h.sep k j _ _ _ _ x id id (fun e => hj e.symm) hl hFj hx⟩) hd (by rw [hu]; exact h.used) ?_ hm (fun x => by rw [hF, if_neg he]) ?_).sameX ?_
  · rw [hg.block p h.lt (fun e => h.pm (Option.some.inj e)), h.blk]
    unfold dkO
    rw [hu]
    rfl
  · exact ⟨hg.os, hg.tape, hg.output, hg.size, fun x hx _ hxm => hg.block x hx (fun e => hxm (Option.some.inj e))⟩
  · exact fun x => ⟨fun hx => hx.elim id (fun hx => (h2 x hx).1), .inl⟩
set_option maxRecDepth 10000 in
set_option maxHeartbeats 1000000 in
theorem harden_any (w : World) {p mb : Nat} {F : Int → Option Value} {ks : List Int} {X : Nat → Prop} {D : Dk} (h : DiskAt w p mb F ks X D) :
    Calls Tryz.prog 32 #[.pointer (some ⟨p, 0, none⟩)] w fun e w' => e = .returned (.tuple #[]) ∧ ∃ F' ks', DiskAt w' p mb F' ks' X D.harden ∧ DStep X X w w' := by
  go_enter Tryz.func32, Tryz.ntmps32
  go_wp2_with fail
  refine (files_any w h).mono ?_
  rintro e w1 ⟨v, rfl, hM⟩
  have hM1 := hM.1
  rw [List.length_map] at hM1
  obtain ⟨a, c, rfl⟩ := own_isSlice hM1
  have H1 := h.later hM.2
  have S1 := DStep.ofBelow X hM.2
  have HX := Lib.hid h.xl
  have HF := Lib.hid (hardL_all D (fun k hk => (h.emp k hk).2) (fun k hk => ⟨(h.ful k hk).1, (h.ful k hk).2.1⟩))
  have hfl := files_len D
  have HMEM := Lib.hid (files_mem D)
  obtain ⟨fl, hfe⟩ : ∃ l, D.files = l := ⟨_, rfl⟩
  rw [hfe] at hM1 HF hfl HMEM ⊢
  obtain ⟨n, hn⟩ : ∃ n, fl.length = n := ⟨_, rfl⟩
  rw [hn] at hM1 hfl ⊢
  have HN := Lib.hid hn
  clear hM hn hfe h
  go_wp2_with fail
  go_loopw [8] (fun u W => ∃ (i : Nat) (F' : Int → Option Value) (ks' : List Int), u = .int .i64 (i : Int) ∧ i ≤ n ∧ DiskAt W p mb F' ks' X (D.hardL (fl.take i)) ∧ W.ownsRow w.heap.size 3 1 (.slice a n c) n (fl.map (Value.int .i64)) ∧ DStep X X w W) (fun u _ => n - (match u with | .int _ k => k.toNat | _ => 0))
  case atStart => exact ⟨0, F, ks, rfl, Nat.zero_le _, by rw [List.take_zero, hardL_nil]; exact H1, hM1, S1⟩
  case round =>
    rename World => W
    obtain ⟨i, F2, ks2, rfl, hin, H2, O2, S2⟩ := hrel
    by_cases hlt : i < n
    · obtain ⟨k, hk⟩ : ∃ k, fl[i]? = some k := ⟨_, List.getElem?_eq_getElem (by rw [HN.out]; exact hlt)⟩
      have hkm := (HMEM.out k).1 (List.mem_of_getElem? hk)
      obtain ⟨g, off, ha, hc⟩ := (Rd.cell (by
        obtain ⟨a', c', e, _, hr⟩ := (Rv.of_own O2).opened
        injection e with e1
        rw [← e1] at hr
        exact hr) (i := i) (u := .int .i64 k) (by rw [List.getElem?_map, hk]; rfl))
      subst ha
      obtain ⟨a2, c2, hlook, hown, hblk⟩ := H2.old k
      have hln : (D.fs k).1.length = ((D.hardL (fl.take i)).fs k).1.length := by rw [hardL_len]
      have hlk := H2.look2 k hlook W rfl
      have hc2 := H2.c2
      have hgX : ∀ x, X x → x < w.heap.size := HX.out
      have hgb : w.heap.size ≤ g := (O2.lt g rfl).1
      have hEl : ((D.hardL (fl.take i)).fs k).1 = (D.fs k).1 := hardL_len D _ k
      have hsn := hardL_snoc D (fl.take i) k hkm.2.2
      rw [← hEl] at hsn
      have ht1 : fl.take (i + 1) = fl.take i ++ [k] := by rw [List.take_add_one, hk]; rfl
      rw [← ht1] at hsn
      have hne : ((D.hardL (fl.take i)).fs k).1 ≠ [] := by rw [hEl]; exact hkm.2.2
      obtain ⟨E, hE⟩ : ∃ E, D.hardL (fl.take i) = E := ⟨_, rfl⟩
      rw [hE] at H2 hlook hown hblk hlk hsn hne
      obtain ⟨bs, hbs⟩ : ∃ b, (E.fs k).1 = b := ⟨_, rfl⟩
      rw [hbs] at hlook hown hlk hsn hne
      obtain ⟨d0, hd0⟩ : ∃ b, (E.fs k).2 = b := ⟨_, rfl⟩
      rw [hd0] at hlook hlk
      have hFk := H2.full (by rw [hbs]; exact hne) hlook
      have HSN := Lib.hid hsn
      have HNE := Lib.hid hne
      have HBS := Lib.hid hbs
      have HFK := Lib.hid hFk
      clear hsn hne hbs hFk hlook hE hEl hln hd0 ht1 hblk hk
      go_upto_region 5 with fail
      have BA := (Below.refl W.heap.size W).alloc (Nat.le_refl _) (.cells #[.slice a2 bs.length c2, .int .i64 (bs.length : Int)] 65)
      have hf := World.alloc_heap_new W (.cells #[.slice a2 bs.length c2, .int .i64 (bs.length : Int)] 65)
      have H3 := H2.later BA
      have O3 := own_below O2 BA
      have S3 := S2.trans (DStep.ofBelow X BA)
      generalize W.alloc (.cells #[.slice a2 bs.length c2, .int .i64 (bs.length : Int)] 65) = w3 at hf H3 O3 S3 ⊢
      generalize W.heap.size = fb at hf ⊢
      have f0d : w3.drew.cell? ⟨fb, 0, none⟩ = some (.slice a2 bs.length c2) := by show w3.cell? _ = _; simp [World.cell?, hf]
      have f1d : w3.drew.cell? ⟨fb, 1, none⟩ = some (.int .i64 (bs.length : Int)) := by show w3.cell? _ = _; simp [World.cell?, hf]
      have c2d : w3.drew.cell? ⟨p, 2, none⟩ = some (.map (some mb)) := H3.c2
      clear H2 O2 S2 hlk hc2 BA hc
      go_still_tail 6, (by kernel_rfl)
      change wpList _ _ _ _ _ w3.drew
      have H4 := H3.later (Below.refl _ _).drew
      have O4 := own_below O3 (Below.refl _ _).drew
      have S4 := S3.trans (DStep.ofBelow X (Below.refl _ _).drew)
      clear H3 O3 S3 hf
      generalize w3.drew = w4 at H4 O4 S4 f0d f1d c2d ⊢
      refine wpList_update_F (v := .agg #[.slice a2 bs.length c2, .int .i64 (bs.length : Int)]) rfl _ _ _ rfl Tryz.underlyingMapF (by kernel_rfl) rfl rfl rfl H4.map ?_
      intro w5 hm5 g5 s5
      have H5 := H4.redur ⟨hkm.1, hkm.2.1⟩ HBS.out HNE.out HFK.out (Nat.le_refl _) hm5 (fun x => rfl) g5
      rw [← HSN.out] at H5
      have hmx := H4.xm
      have S5 : DStep X X w w5 := S4.trans ⟨g5.os, g5.tape, g5.output, g5.size, fun x hx hX => g5.block x hx (fun e => hX (by cases e; exact hmx)), fun x hx => .inl hx⟩
      have O5 := own_same (w' := w5) O4 (fun x hx => g5.block x (O4.lt x hx).2 (fun e => by
        have h1 := (O4.lt x hx).1
        have h2 := hgX mb hmx
        have h3 := Option.some.inj e
        omega))
      clear H4 O4 S4 hm5 g5 s5 f0d f1d c2d
      go_wp2_with fail
      refine ⟨⟨i + 1, _, _, by simp, hlt, H5, O5, S5⟩, ?_⟩
      show n - ((i : Int) + 1).toNat < n - ((i : Int)).toNat
      omega
    · obtain rfl : i = n := by omega
      have ht : fl.take i = fl := List.take_of_length_le (by rw [HN.out]; exact Nat.le_refl _)
      rw [ht, HF.out] at H2
      go_wp2_with fail
      go_end0
      exact ⟨rfl, F2, ks2, H2, S2⟩
end Go.Proofs.YtpehnggglolnoaaGreat

/- Package disk: Sync, Rot. -/
namespace Go.Proofs.YtpehnggglolnoaaGreat
open Go.RowKit

def Dk.sync (D : Dk) : Int × Dk := if D.off then (19, D) else if D.failsB then (19, D.fails) else (0, D.fails.harden)
set_option maxRecDepth 10000 in
set_option maxHeartbeats 1000000 in
theorem sync_any (w : World) {p mb : Nat} {F : Int → Option Value} {ks : List Int} {X : Nat → Prop} {D : Dk} (h : DiskAt w p mb F ks X D) :
    Calls Tryz.prog 25 #[.pointer (some ⟨p, 0, none⟩)] w fun e w' => e = .returned (.int .i64 D.sync.1) ∧ ∃ F' ks', DiskAt w' p mb F' ks' X D.sync.2 ∧ DStep X X w w' := by
  have c3 := h.c3
  have HH := Lib.hid h
  go_enter Tryz.func25, Tryz.ntmps25
  cases ho : D.off
  · rw [ho] at c3
    have hA : D.sync = if D.failsB then (19, D.fails) else (0, D.fails.harden) := by unfold Dk.sync; rw [ho, if_neg (by simp)]
    have HA := Lib.hid hA
    clear hA
    go_wp2_with fail
    refine (fails_any w h).mono ?_
    rintro e w2 ⟨rfl, H2, P2⟩
    have S2 := P2.toD h.xp
    have hA := HA.out
    obtain ⟨fv, hfv⟩ : ∃ v, D.failsB = v := ⟨_, rfl⟩
    rw [hfv] at hA ⊢
    have HA := Lib.hid hA
    clear hA hfv h
    cases fv
    · go_wp2_with fail
      refine (harden_any w2 H2).mono ?_
      rintro e w3 ⟨rfl, F3, ks3, H3, S3⟩
      go_wp2_with fail
      go_ret
      rw [HA.out]
      exact ⟨rfl, F3, ks3, H3, S2.trans S3⟩
    · go_wp2_with fail
      go_ret
      rw [HA.out]
      exact ⟨rfl, F, ks, H2, S2⟩
  · rw [ho] at c3
    have hA : D.sync = (19, D) := by unfold Dk.sync; rw [ho, if_pos rfl]
    have HA := Lib.hid hA
    clear hA
    go_wp2_with fail
    go_ret
    rw [HA.out]
    exact ⟨rfl, F, ks, HH.out, DStep.refl _ _⟩
/-- A row of one file turned where it lies. -/
theorem DiskX.rerow {w w' : World} {p mb : Nat} {F : Int → Option Value} {ks : List Int} {X : Nat → Prop} {D : Dk} (h : DiskAt w p mb F ks X D) {k : Int} (hk : 0 ≤ k ∧ k < 64) {bs bs' : List UInt8} {du : Nat} (hbs : (D.fs k).1 = bs) (hdu : (D.fs k).2 = du) (he : bs ≠ []) (hlen : bs'.length = bs.length) {a : Option Addr} {c : Nat} {d0 : Int} (hl : F k = some (.agg #[.slice a bs.length c, .int .i64 d0]))
    (hv : w'.ownsRow 0 5 1 (.slice a bs.length c) bs.length (bs'.map vB)) (hs : w.heap.size ≤ w'.heap.size) (hg : ∀ x, x < w.heap.size → (Value.slice a bs.length c).ownBlock ≠ some x → w'.heap[x]? = w.heap[x]?) : DiskAt w' p mb F ks X (D.put k bs' du) := by
  have hne : bs' ≠ [] := fun e => he (List.eq_nil_of_length_eq_zero (by rw [← hlen, e]; rfl))
  have hu : (D.put k bs' du).used = D.used := by
    have := D.used_put k bs' du hk.1 hk.2
    rw [hbs, hlen] at this
    omega
  have hself : (D.put k bs' du).fs k = (bs', du) := by simp [Dk.put, hne]
  have hother : ∀ j, j ≠ k → (D.put k bs' du).fs j = D.fs j := fun j hj => by simp [Dk.put, hj]
  obtain ⟨h1, h2⟩ := h.row k _ _ id hl
  refine ⟨?_, h.map.kept (hg mb h.map.lt (fun e => (h2 mb e).2.2 rfl)), h.pm, h.xp, h.xm, fun j hj => ?_, fun j hj => ?_, fun j v e _ hj => ?_, h.sep, fun j => ?_, h.room, by rw [hu]; exact h.used, h.left, fun x hx => Nat.lt_of_lt_of_le (h.xl x hx) hs⟩
  · rw [hg p h.lt (fun e => (h2 p e).2.1 rfl), h.blk]
    unfold dkO
    rw [hu]
    rfl
  · by_cases hjk : j = k
    · subst hjk; rw [hself] at hj; exact absurd hj hne
    · rw [hother j hjk] at hj ⊢; exact h.emp j hj
  · by_cases hjk : j = k
    · subst hjk
      rw [hself]
      obtain ⟨_, _, a', c', hF⟩ := h.ful j (by rw [hbs]; exact he)
      rw [hbs, hdu] at hF
      exact ⟨hk.1, hk.2, a', c', by rw [hF, hlen]⟩
    · rw [hother j hjk] at hj ⊢; exact h.ful j hj
  · by_cases hjk : j = k
    · subst hjk
      rw [hl] at hj
      cases hj
      rw [hself]
      exact ⟨by rw [hlen]; exact hv, h2⟩
    · rw [hother j hjk]
      obtain ⟨h3, h4⟩ := h.row j v e id hj
      exact ⟨own_same h3 (fun x hx => hg x (h3.lt x hx).2 (fun e2 => h.sep k j _ _ _ _ x id id (fun e => hjk e.symm) hl hj e2 hx)), h4⟩
  · by_cases hjk : j = k
    · subst hjk
      rw [hself]
      have := h.dur j
      rw [hbs, hdu] at this
      show du ≤ bs'.length
      omega
    · rw [hother j hjk]; exact h.dur j
def maskB (j : Nat) : UInt8 := UInt8.ofNat (128 >>> j)
def flipB (b : List UInt8) (n : Nat) : List UInt8 := b.modify (n / 8) fun x => x ^^^ maskB (n % 8)
theorem flipB_len (b : List UInt8) (n : Nat) : (flipB b n).length = b.length := by simp [flipB]
theorem flipB_set (b : List UInt8) (n : Nat) (x : UInt8) (h : b[n / 8]? = some x) : flipB b n = b.set (n / 8) (x ^^^ maskB (n % 8)) := by
  unfold flipB
  apply List.ext_getElem?
  intro i
  rw [List.getElem?_modify, List.getElem?_set]
  by_cases e : n / 8 = i
  · subst e
    have := (List.getElem?_eq_some_iff.1 h).1
    rw [if_pos rfl, h, if_pos this]
    simp
  · simp [e]
def Dk.rot (D : Dk) (k bit : Int) : Int × Dk :=
  if ¬ (0 ≤ k ∧ k < 64) ∨ bit < 0 ∨ 8 * ((D.fs k).1.length : Int) ≤ bit then (1, D) else (0, D.put k (flipB (D.fs k).1 bit.toNat) (D.fs k).2)
end Go.Proofs.YtpehnggglolnoaaGreat

/- Package disk: invert. -/
namespace Go.Proofs.YtpehnggglolnoaaGreat
open Go.RowKit

def Dk.invertL (D : Dk) : List Int → Nat → Dk
  | [], _ => D
  | k :: l, n => if n < 8 * ((D.fs k).1.length - (D.fs k).2) then D.put k (flipB (D.fs k).1 (8 * (D.fs k).2 + n)) (D.fs k).2 else D.invertL l (n - 8 * ((D.fs k).1.length - (D.fs k).2))
theorem maskI (x : UInt8) (r : Nat) (h : r < 8) : bits BinOp.xor IntKind.u8 (x.toNat : Int) (128 / 2 ^ r) = ((x ^^^ maskB r).toNat : Int) := by
  rw [← xor_u8]
  congr 1
  have h8 : r = 0 ∨ r = 1 ∨ r = 2 ∨ r = 3 ∨ r = 4 ∨ r = 5 ∨ r = 6 ∨ r = 7 := by omega
  rcases h8 with h | h | h | h | h | h | h | h <;> subst h <;> decide
set_option maxRecDepth 10000 in
set_option maxHeartbeats 1000000 in
theorem invert_any (n0 : Nat) (hn64 : (n0 : Int) ≤ 9223372036854775807) (w : World) {p mb : Nat} {F : Int → Option Value} {ks : List Int} {X : Nat → Prop} {D : Dk} (h : DiskAt w p mb F ks X D) :
    Calls Tryz.prog 31 #[.pointer (some ⟨p, 0, none⟩), .int .i64 (n0 : Int)] w fun e w' => e = .returned (.tuple #[]) ∧ DiskAt w' p mb F ks X (D.invertL D.files n0) ∧ DStep X X w w' := by
  obtain ⟨R, hR⟩ : ∃ R, D.invertL D.files n0 = R := ⟨_, rfl⟩
  rw [hR]
  have HR := Lib.hid hR
  clear hR
  go_enter Tryz.func31, Tryz.ntmps31
  go_wp2_with fail
  refine (files_any w h).mono ?_
  rintro e w1 ⟨v, rfl, hM⟩
  have hM1 := hM.1
  rw [List.length_map] at hM1
  obtain ⟨a, c, rfl⟩ := own_isSlice hM1
  have H1 := h.later hM.2
  have S1 := DStep.ofBelow X hM.2
  have HX := Lib.hid h.xl
  have hfl := files_len D
  have HMEM := Lib.hid (files_mem D)
  have hlb : ∀ k : Int, 0 ≤ k ∧ k < 64 → ((D.fs k).1.length : Int) ≤ 16777216 := fun k hk => by
    have h1 := D.le_used k hk.1 hk.2
    have h2 := h.used
    have h3 := h.room
    omega
  have HLB := Lib.hid hlb
  obtain ⟨fl, hfe⟩ : ∃ l, D.files = l := ⟨_, rfl⟩
  rw [hfe] at hM1 hfl HMEM HR ⊢
  obtain ⟨n, hn⟩ : ∃ n, fl.length = n := ⟨_, rfl⟩
  rw [hn] at hM1 hfl ⊢
  have HN := Lib.hid hn
  clear hM hn hfe h hlb
  go_wp2_with fail
  go_loopw [1, 11] (fun u v W => ∃ (i m : Nat), u = .int .i64 (m : Int) ∧ v = .int .i64 (i : Int) ∧ i ≤ n ∧ m ≤ n0 ∧ Hid (D.invertL (fl.drop i) m = R) ∧ DiskAt W p mb F ks X D ∧ W.ownsRow w.heap.size 3 1 (.slice a n c) n (fl.map (Value.int .i64)) ∧ DStep X X w W) (fun _ v _ => n - (match v with | .int _ k => k.toNat | _ => 0))
  case atStart => exact ⟨0, n0, rfl, rfl, Nat.zero_le _, Nat.le_refl _, HR, H1, hM1, S1⟩
  case round =>
    rename World => W
    obtain ⟨i, m, rfl, rfl, hin, hmn, HR2, H2, O2, S2⟩ := hrel
    by_cases hlt : i < n
    · obtain ⟨k, hk⟩ : ∃ k, fl[i]? = some k := ⟨_, List.getElem?_eq_getElem (by rw [HN.out]; exact hlt)⟩
      have hkm := (HMEM.out k).1 (List.mem_of_getElem? hk)
      have hdr : fl.drop i = k :: fl.drop (i + 1) := by
        rw [List.drop_eq_getElem_cons (by rw [HN.out]; exact hlt)]
        congr 1
        have := List.getElem?_eq_getElem (l := fl) (i := i) (by rw [HN.out]; exact hlt)
        rw [this] at hk
        exact Option.some.inj hk
      have hR2 := HR2.out
      rw [hdr, Dk.invertL] at hR2
      obtain ⟨g, off, ha, hc⟩ := (Rd.cell (by
        obtain ⟨a', c', e, _, hr⟩ := (Rv.of_own O2).opened
        injection e with e1
        rw [← e1] at hr
        exact hr) (i := i) (u := .int .i64 k) (by rw [List.getElem?_map, hk]; rfl))
      subst ha
      obtain ⟨a2, c2, hlook, hown, hblk⟩ := H2.old k
      have hlk := H2.look2 k hlook W rfl
      have hc2 := H2.c2
      have hdur := H2.dur k
      have hl1 := HLB.out k ⟨hkm.1, hkm.2.1⟩
      have hgX : ∀ x, X x → x < w.heap.size := HX.out
      have hgb : w.heap.size ≤ g := (O2.lt g rfl).1
      obtain ⟨bs, hbs⟩ : ∃ b, (D.fs k).1 = b := ⟨_, rfl⟩
      obtain ⟨d, hd⟩ : ∃ b, (D.fs k).2 = b := ⟨_, rfl⟩
      rw [hbs] at hlook hown hblk hlk hR2 hdur hl1
      rw [hd] at hlook hlk hR2 hdur
      have hne : bs ≠ [] := by rw [← hbs]; exact hkm.2.2
      have hFk := H2.full (by rw [hbs]; exact hne) hlook
      obtain ⟨z, hz⟩ : ∃ z, bs.length = z + 1 := ⟨bs.length - 1, by have := List.length_pos_iff.2 hne; omega⟩
      rw [hz] at hown
      obtain ⟨g2, cap2, e, _, hcap, hcell, hfrz⟩ := own_open hown
      injection e with e1 e2 e3
      subst e1 e3
      rw [← hz] at hown hcap hcell
      have HR2 := Lib.hid hR2
      have HNE := Lib.hid hne
      have HBS := Lib.hid hbs
      have HD := Lib.hid hd
      have HFK := Lib.hid hFk
      have HC := Lib.hid hcell
      have HFZ := Lib.hid hfrz
      obtain ⟨L, hL⟩ : ∃ L, bs.length = L := ⟨_, rfl⟩
      have HL := Lib.hid hL
      clear hne hbs hd hFk hlook hk hR2 hcell hfrz hdr e2 hz
      rw [hL] at hlk hown hblk hdur hl1 hcap
      clear hL
      have hsz : wrap64 ((L : Int) - (d : Int)) = (L : Int) - (d : Int) := by unfold wrap64; omega
      obtain ⟨M, hM⟩ : ∃ M, L - d = M := ⟨_, rfl⟩
      have hMi : (L : Int) - (d : Int) = (M : Int) := by omega
      go_upto_region 5 with fail
      obtain ⟨P0, hP0⟩ : ∃ P0, (if c2 = d then some (⟨g2, 0, none⟩ : Addr) else some ⟨g2, d, none⟩) = P0 := ⟨_, rfl⟩
      rw [hP0]
      have BA := (Below.refl W.heap.size W).alloc (Nat.le_refl _) (.cells #[.slice (some ⟨g2, 0, none⟩) L c2, .int .i64 (d : Int)] 65)
      have H3 := H2.later BA
      have O3 := own_below O2 BA
      have S3 := S2.trans (DStep.ofBelow X BA)
      have W3 := own_below hown BA
      generalize W.alloc (.cells #[.slice (some ⟨g2, 0, none⟩) L c2, .int .i64 (d : Int)] 65) = w3 at H3 O3 S3 W3 ⊢
      generalize W.heap.size = fb
      clear H2 O2 S2 hlk hc2 BA hc hown HC HFZ
      by_cases hm : m < 8 * M
      · have hcd : ¬ c2 = d := by omega
        rw [if_neg hcd] at hP0
        subst hP0
        obtain ⟨q, hq⟩ : ∃ q, m / 8 = q := ⟨_, rfl⟩
        obtain ⟨r, hr⟩ : ∃ r, m % 8 = r := ⟨_, rfl⟩
        have hqd : (8 * d + m) / 8 = d + q := by omega
        have hrd : (8 * d + m) % 8 = r := by omega
        obtain ⟨x, hx⟩ : ∃ x, bs[d + q]? = some x := ⟨_, List.getElem?_eq_getElem (by rw [HL.out]; omega)⟩
        have hcx := W3.cellAt (j := d + q) (by omega)
        rw [List.getElem?_map, hx] at hcx
        simp only [Option.map_some, vB] at hcx
        have hfz := W3.frozenAt (d + q)
        have hst := (W3.stored (d + q) (vB (x ^^^ maskB r))).1
        have hfs := flipB_set bs (8 * d + m) x (by rw [hqd]; exact hx)
        rw [hqd, hrd] at hfs
        rw [← List.map_set, ← hfs] at hst
        have hmM : (m : Int) < 8 * (M : Int) := by omega
        have hr8 : r < 8 := by omega
        have hqM : q < M := by omega
        have hqM' : (q : Int) < (M : Int) := by omega
        have hw1 : IntKind.i64.wrap ((m : Int) / 8) = (q : Int) := by rw [IntKind.wrap_i64]; omega
        have hw3 : ((m : Int)).tmod 8 = (r : Int) := by rw [Int.tmod_eq_emod_of_nonneg (by omega)]; omega
        have hcxd : w3.drew.cell? ⟨g2, d + q, none⟩ = some (.int .u8 (x.toNat : Int)) := hcx
        have hR2 := HR2.out
        rw [HL.out, hM, if_pos hm] at hR2
        have HR2 := Lib.hid hR2
        have HX8 := Lib.hid (maskI x r hr8)
        have HST := Lib.hid hst
        have HNE := HNE
        clear hq hr hqd hrd hx hst hfs hfz hM hcx hR2
        go_upto_region 6 with fail
        go_still_tail 10, (by kernel_rfl)
        change wpList _ _ _ _ _ w3.drew
        rw [HX8.out]
        have hst := HST.out
        obtain ⟨y, hy⟩ : ∃ y, x ^^^ maskB r = y := ⟨_, rfl⟩
        rw [hy] at hst ⊢
        have hgX := (hblk g2 rfl)
        have hb2 : ∀ j, j ≠ g2 → (w3.setCell ⟨g2, d + q, none⟩ (.int .u8 (y.toNat : Int))).drew.heap[j]? = w3.heap[j]? := fun j hj => (Below.heap_setCell _ _ _ _ hj).trans rfl
        have hs2 : (w3.setCell ⟨g2, d + q, none⟩ (.int .u8 (y.toNat : Int))).drew.heap.size = w3.heap.size := World.size_setCell _ _ _
        have D2 := H3.rerow (w' := (w3.setCell ⟨g2, d + q, none⟩ (.int .u8 (y.toNat : Int))).drew) ⟨hkm.1, hkm.2.1⟩ HBS.out HD.out HNE.out (flipB_len bs (8 * d + m)) HFK.out (by rw [HL.out]; exact hst) (by rw [hs2]; exact Nat.le_refl _) (fun j _ hj => hb2 j (fun e => hj (by rw [e]; rfl)))
        have S2 : DStep X X w (w3.setCell ⟨g2, d + q, none⟩ (.int .u8 (y.toNat : Int))).drew := S3.trans ⟨rfl, rfl, rfl, by rw [hs2]; exact Nat.le_refl _, fun j _ hj => hb2 j (fun e => hj (by rw [e]; exact hgX.1)), fun j hj => .inl hj⟩
        rw [HR2.out] at D2
        have hfzd : w3.drew.frozen? ⟨g2, d + q, none⟩ = false := W3.frozenAt (d + q)
        clear HX8 hst hgX hb2 hs2 hblk hy
        go_wp2_with fail
        refine bodyPost_ret (results_none rfl _ _ _) rfl ?_
        exact ⟨rfl, D2, S2⟩
      · have hR2 := HR2.out
        rw [HL.out, hM, if_neg hm] at hR2
        have HR2 := Lib.hid hR2
        obtain ⟨m2, hm2⟩ : ∃ m2, m = m2 + 8 * M := ⟨m - 8 * M, by omega⟩
        have hmi : ¬ (m : Int) < 8 * (M : Int) := by omega
        have hmz : (m : Int) - 8 * (M : Int) = (m2 : Int) := by omega
        have hmz2 : m - 8 * M = m2 := by omega
        rw [hmz2] at HR2
        have hmn2 : m2 ≤ n0 := by omega
        clear hR2 hm2 hmz2 hm hP0 W3 hblk
        go_wp2_with fail
        refine ⟨⟨i + 1, m2, by simp, by simp, hlt, hmn2, HR2, H3, O3, S3⟩, ?_⟩
        show n - ((i : Int) + 1).toNat < n - ((i : Int)).toNat
        omega
    · obtain rfl : i = n := by omega
      have ht : fl.drop i = [] := List.drop_eq_nil_of_le (by rw [HN.out]; exact Nat.le_refl _)
      rw [ht, Dk.invertL] at HR2
      go_wp2_with fail
      go_end0
      rw [← HR2.out]
      exact ⟨rfl, H2, S2⟩
end Go.Proofs.YtpehnggglolnoaaGreat

/- Package disk: Crash. -/
namespace Go.Proofs.YtpehnggglolnoaaGreat
open Go.RowKit

theorem own_at {α : Type} {W : World} {base n c i : Nat} {e : TypeId} {a : Option Addr} {l : List α} {f : α → Value} {k : α} (h : W.ownsRow base e 1 (.slice a n c) n (l.map f)) (hk : l[i]? = some k) : ∃ g off, a = some ⟨g, off, none⟩ ∧ W.cell? ⟨g, off + i, none⟩ = some (f k) ∧ base ≤ g := by
  obtain ⟨a', c', e, _, hr⟩ := (Rv.of_own h).opened
  injection e with e1
  rw [← e1] at hr
  obtain ⟨g, off, ha, hc⟩ := hr.cell (i := i) (u := f k) (by rw [List.getElem?_map, hk]; rfl)
  exact ⟨g, off, ha, hc, (h.lt g (by rw [ha]; rfl)).1⟩
theorem rv_at {α : Type} {W : World} {n c i : Nat} {a : Option Addr} {l : List α} {f : α → Value} {k : α} (h : Rv W (.slice a n c) n (l.map f)) (hk : l[i]? = some k) : ∃ g off, a = some ⟨g, off, none⟩ ∧ W.cell? ⟨g, off + i, none⟩ = some (f k) := by
  obtain ⟨a', c', e, _, hr⟩ := h.opened
  injection e with e1
  rw [← e1] at hr
  exact hr.cell (i := i) (u := f k) (by rw [List.getElem?_map, hk]; rfl)
/-- How many loose bytes of the i-th file are kept. -/
def keptN (keep : List Int) (i L : Nat) : Nat := match keep[i]? with
  | none => 0
  | some x => min x.toNat L
theorem keptN_le (keep : List Int) (i L : Nat) : keptN keep i L ≤ L := by unfold keptN; split <;> omega
/-- The first i files, cut; and the loose bytes kept. -/
def Dk.cutI (D : Dk) (keep fl : List Int) : Nat → Dk × Nat
  | 0 => (D, 0)
  | i + 1 => let E := D.cutI keep fl i
             let k := fl[i]?.getD 0
             let t := keptN keep i ((E.1.fs k).1.length - (E.1.fs k).2)
             (E.1.put k ((E.1.fs k).1.take ((E.1.fs k).2 + t)) (E.1.fs k).2, E.2 + t)
theorem cutI_room (D : Dk) (keep fl : List Int) (i : Nat) : (D.cutI keep fl i).1.room = D.room := by
  induction i with
  | zero => rfl
  | succ i ih => exact ih
def Dk.crash (D : Dk) (keep : List Int) (flip : Int) : Dk :=
  let E := D.cutI keep D.files D.files.length
  let E2 := if 0 ≤ flip ∧ 0 < E.2 then E.1.invertL E.1.files (flip.toNat % (8 * E.2)) else E.1
  { E2.harden with off := false, armed := false, left := 0 }
set_option maxRecDepth 20000 in
set_option maxHeartbeats 2000000 in
theorem crash_any (keep : List Int) (kv : Value) (flip : Int) (hf64 : flip ≤ 9223372036854775807) (hk64 : ∀ x ∈ keep, x ≤ 9223372036854775807) (w : World) {p mb : Nat} {F : Int → Option Value} {ks : List Int} {X : Nat → Prop} {D : Dk} (h : DiskAt w p mb F ks X D)
    (hkv : Rv w kv keep.length (keep.map (Value.int .i64))) (hkX : ∀ x, kv.ownBlock = some x → ¬ X x) :
    Calls Tryz.prog 11 #[.pointer (some ⟨p, 0, none⟩), kv, .int .i64 flip] w fun e w' => e = .returned (.tuple #[]) ∧ ∃ F' ks', DiskAt w' p mb F' ks' X (D.crash keep flip) ∧ DStep X X w w' := by
  obtain ⟨R, hR⟩ : ∃ R, D.crash keep flip = R := ⟨_, rfl⟩
  rw [hR]
  unfold Dk.crash at hR
  obtain ⟨ak, ck, rfl, _, _⟩ := hkv.opened
  have HR := Lib.hid hR
  clear hR
  go_enter Tryz.func11, Tryz.ntmps11
  go_wp2_with fail
  refine (files_any w h).mono ?_
  rintro e w1 ⟨v, rfl, hM⟩
  have hM1 := hM.1
  rw [List.length_map] at hM1
  obtain ⟨a, c, rfl⟩ := own_isSlice hM1
  have H1 := h.later hM.2
  have S1 := DStep.ofBelow X hM.2
  have K1 := hkv.below hM.2
  have HX := Lib.hid h.xl
  have hfl := files_len D
  have HMEM := Lib.hid (files_mem D)
  have HK64 := Lib.hid hk64
  obtain ⟨fl, hfe⟩ : ∃ l, D.files = l := ⟨_, rfl⟩
  rw [hfe] at hM1 hfl HMEM HR ⊢
  obtain ⟨n, hn⟩ : ∃ n, fl.length = n := ⟨_, rfl⟩
  rw [hn] at hM1 hfl HR ⊢
  have HN := Lib.hid hn
  have hkl2 : keep.length ≤ maxLen := hkv.len
  obtain ⟨kn, hkn⟩ : ∃ kn, keep.length = kn := ⟨_, rfl⟩
  rw [hkn] at K1 hkl2 hkX ⊢
  have HKX := Lib.hid hkX
  have HKN := Lib.hid hkn
  clear hM hn hfe h hkX hk64 hkv hkn
  go_wp2_with fail
  go_loopw [7, 16] (fun u v W => ∃ (i s : Nat) (F' : Int → Option Value) (ks' : List Int), u = .int .i64 (s : Int) ∧ v = .int .i64 (i : Int) ∧ i ≤ n ∧ s ≤ i * 16777216 ∧ Hid ((D.cutI keep fl i).2 = s) ∧ DiskAt W p mb F' ks' X (D.cutI keep fl i).1 ∧ W.ownsRow w.heap.size 3 1 (.slice a n c) n (fl.map (Value.int .i64)) ∧ Rv W (.slice ak kn ck) kn (keep.map (Value.int .i64)) ∧ DStep X X w W) (fun _ v _ => n - (match v with | .int _ k => k.toNat | _ => 0))
  case atStart => exact ⟨0, 0, F, ks, rfl, rfl, Nat.zero_le _, by simp, rfl, H1, hM1, K1, S1⟩
  case round =>
    rename World => W
    obtain ⟨i, s, F2, ks2, rfl, rfl, hin, hs, HS, H2, O2, K2, S2⟩ := hrel
    by_cases hlt : i < n
    · obtain ⟨k, hk⟩ : ∃ k, fl[i]? = some k := ⟨_, List.getElem?_eq_getElem (by rw [HN.out]; exact hlt)⟩
      have hkm := (HMEM.out k).1 (List.mem_of_getElem? hk)
      obtain ⟨E, hE⟩ : ∃ E, (D.cutI keep fl i).1 = E := ⟨_, rfl⟩
      have hnx : D.cutI keep fl (i + 1) = (E.put k ((E.fs k).1.take ((E.fs k).2 + keptN keep i ((E.fs k).1.length - (E.fs k).2))) (E.fs k).2, s + keptN keep i ((E.fs k).1.length - (E.fs k).2)) := by
        rw [← hE, ← HS.out]
        show Prod.mk _ _ = _
        rw [hk]
        rfl
      rw [hE] at H2
      clear hE
      obtain ⟨g, off, ha, hc, hgb⟩ := own_at O2 hk
      subst ha
      obtain ⟨a2, c2, hlook, hown, hblk⟩ := H2.old k
      have hlk := H2.look2 k hlook W rfl
      have hc2 := H2.c2
      have hdur := H2.dur k
      have hl1 := E.le_used k hkm.1 hkm.2.1
      have hl2 := H2.used
      have hl3 := H2.room
      have hgX : ∀ x, X x → x < w.heap.size := HX.out
      obtain ⟨bs, hbs⟩ : ∃ b, (E.fs k).1 = b := ⟨_, rfl⟩
      obtain ⟨d, hd⟩ : ∃ b, (E.fs k).2 = b := ⟨_, rfl⟩
      rw [hbs] at hlook hown hblk hlk hnx hdur hl1
      rw [hd] at hlook hlk hnx hdur
      obtain ⟨L, hL⟩ : ∃ L, bs.length = L := ⟨_, rfl⟩
      rw [hL] at hlook hown hblk hlk hnx hdur hl1
      have hL24 : L ≤ 16777216 := by omega
      have hcap : L ≤ c2 := by
        obtain ⟨_, _, e, h, _⟩ := (Rv.of_own hown).opened
        cases e
        exact h
      obtain ⟨M, hM⟩ : ∃ M, L - d = M := ⟨_, rfl⟩
      have hMi : (L : Int) - (d : Int) = (M : Int) := by omega
      rw [hM] at hnx
      obtain ⟨t, ht⟩ : ∃ t, keptN keep i M = t := ⟨_, rfl⟩
      have htM : t ≤ M := by rw [← ht]; exact keptN_le _ _ _
      rw [ht] at hnx
      have HNX := Lib.hid hnx
      have HT := Lib.hid ht
      have HBS := Lib.hid hbs
      have HD := Lib.hid hd
      have HL := Lib.hid hL
      have HMM := Lib.hid hM
      have HLK := Lib.hid hlook
      clear hnx ht hbs hd hL hlook hk hM hl1 hl2 hl3
      go_upto_region 7 with fail
      have BA := (Below.refl W.heap.size W).alloc (Nat.le_refl _) (.cells #[.slice a2 L c2, .int .i64 (d : Int)] 65)
      have hf := World.alloc_heap_new W (.cells #[.slice a2 L c2, .int .i64 (d : Int)] 65)
      have H3 := H2.later BA
      have O3 := own_below O2 BA
      have K3 := K2.below BA
      have SW := DStep.ofBelow X BA
      have S3 := S2.trans (DStep.ofBelow X BA)
      have W3 := own_below hown BA
      have hfl3 : ∀ x, (Value.slice a2 L c2).ownBlock = some x → x < W.heap.size := fun x hx => (hown.lt x hx).2
      have hXf : ∀ x, X x → x < W.heap.size := H2.xl
      have hgf : (Value.slice (some ⟨g, off, none⟩) n c).ownBlock ≠ some W.heap.size := fun e => by have := (O2.lt _ e).2; omega
      generalize W.alloc (.cells #[.slice a2 L c2, .int .i64 (d : Int)] 65) = w3 at H3 O3 S3 W3 K3 SW hf ⊢
      have hWf : W.heap.size ≤ W.heap.size := Nat.le_refl _
      generalize hfbe : W.heap.size = fb at hf hfl3 hXf hgf ⊢
      replace hWf : W.heap.size ≤ fb := by rw [← hfbe]; exact hWf
      clear hfbe
      clear H2 O2 hlk hc2 BA hc hown
      have f0 : w3.cell? ⟨fb, 0, none⟩ = some (.slice a2 L c2) := by simp [World.cell?, hf]
      have f1 : w3.cell? ⟨fb, 1, none⟩ = some (.int .i64 (d : Int)) := by simp [World.cell?, hf]
      have f0d : w3.drew.cell? ⟨fb, 0, none⟩ = some (.slice a2 L c2) := f0
      have f1d : w3.drew.cell? ⟨fb, 1, none⟩ = some (.int .i64 (d : Int)) := f1
      go_upto_if 30 with fail
      obtain ⟨bq, hbq⟩ : ∃ b, decide (i < kn) = b := ⟨_, rfl⟩
      rw [hbq]
      go_cut [11] from 31 to 42 (fun u wx => u = .int .i64 (t : Int) ∧ Below w3.heap.size w3 wx)
      case first =>
        cases bq with
        | true =>
          have hik : i < kn := of_decide_eq_true hbq
          obtain ⟨x, hx⟩ : ∃ x, keep[i]? = some x := ⟨_, List.getElem?_eq_getElem (by rw [HKN.out]; exact hik)⟩
          obtain ⟨gk, offk, hak, hck⟩ := rv_at K3 hx
          subst hak
          have hckd : w3.drew.cell? ⟨gk, offk + i, none⟩ = some (.int .i64 x) := hck
          have hiki : (i : Int) < (kn : Int) := by omega
          have hx64 := HK64.out x (List.mem_of_getElem? hx)
          have htx : t = min x.toNat M := by rw [← HT.out]; unfold keptN; rw [hx]
          go_wp2_with fail
          go_quiet (fail)
          go_wp2_with fail
          go_meet
          refine ⟨?_, belD (Below.refl _ _) nq⟩
          rw [htx]
          congr 1
          omega
        | false =>
          have hik : ¬ i < kn := of_decide_eq_false hbq
          have hiki : ¬ (i : Int) < (kn : Int) := by omega
          have ht0 : t = 0 := by rw [← HT.out]; unfold keptN; rw [List.getElem?_eq_none (by rw [HKN.out]; omega)]
          subst ht0
          go_wp2_with fail
          go_meet
          exact ⟨by simp, Below.refl _ _⟩
      case rest =>
      rename World => w4
      obtain ⟨rfl, B4⟩ := hcut
      have hfl := (Array.getElem?_eq_some_iff.1 hf).1
      have hf4 := (B4.block fb hfl).trans hf
      have H4 := H3.later B4
      have O4 := own_below O3 B4
      have S4 := S3.trans (DStep.ofBelow X B4)
      have SW4 := SW.trans (DStep.ofBelow X B4)
      have W4 := own_below W3 B4
      clear H3 O3 S3 SW W3 K3 f0 f1 f0d f1d hf B4 hfl
      have f0 : w4.cell? ⟨fb, 0, none⟩ = some (.slice a2 L c2) := by simp [World.cell?, hf4]
      have f1 : w4.cell? ⟨fb, 1, none⟩ = some (.int .i64 (d : Int)) := by simp [World.cell?, hf4]
      have fz : ∀ j, w4.frozen? ⟨fb, j, none⟩ = false := fun j => by simp [World.frozen?, hf4]
      have hdt : (d : Int) + (t : Int) ≤ (c2 : Int) := by omega
      go_upto_region 10 with fail
      have H5 := H4.kept (w' := w4.setCell ⟨fb, 0, none⟩ (.slice a2 (d + t) c2)) (by simp) (fun x hx => Below.heap_setCell _ _ _ _ (by have := hXf x hx; show x ≠ fb; omega))
      have O5 := own_same (w' := w4.setCell ⟨fb, 0, none⟩ (.slice a2 (d + t) c2)) O4 (fun x hx => Below.heap_setCell _ _ _ _ (fun e => hgf (by rw [hx, e])))
      have W5 := own_same (w' := w4.setCell ⟨fb, 0, none⟩ (.slice a2 (d + t) c2)) W4 (fun x hx => Below.heap_setCell _ _ _ _ (by have := hfl3 x hx; show x ≠ fb; omega))
      have hf5 := setBlk hf4 0 (.slice a2 (d + t) c2)
      simp only [List.setIfInBounds_toArray, List.set_cons_zero] at hf5
      have hfbW : W.heap.size ≤ fb := hWf
      have SW5 : DStep X X W (w4.setCell ⟨fb, 0, none⟩ (.slice a2 (d + t) c2)) := ⟨SW4.os, SW4.tape, SW4.output, by rw [World.size_setCell]; exact SW4.size, fun j hj hX => (Below.heap_setCell _ _ _ _ (by show j ≠ fb; omega)).trans (SW4.block j hj hX), fun j hj => .inl hj⟩
      have S5 := S2.trans SW5
      have htl : (bs.take (d + t)).length = d + t := by rw [List.length_take, HL.out]; omega
      have hcut := own_cut W5 (d + t) (by omega)
      rw [← List.map_take] at hcut
      generalize w4.setCell ⟨fb, 0, none⟩ (.slice a2 (d + t) c2) = w5 at H5 O5 W5 hf5 SW5 S5 hcut ⊢
      clear H4 O4 S4 SW4 W4 hf4 f0 f1 fz
      have k0 : w5.cell? ⟨fb, 0, none⟩ = some (.slice a2 (d + t) c2) := by simp [World.cell?, hf5]
      have k1 : w5.cell? ⟨fb, 1, none⟩ = some (.int .i64 (d : Int)) := by simp [World.cell?, hf5]
      have hroom : ((E.put k (bs.take (d + t)) d).used : Int) ≤ E.room := by
        have h1 := E.used_put k (bs.take (d + t)) d hkm.1 hkm.2.1
        rw [HBS.out, HL.out, htl] at h1
        have h2 := H5.used
        omega
      have hput := put_any k a2 c2 d (bs.take (d + t)) w5 (H5.weak (fun j => j = k)) hkm.1 hkm.2.1 (by rw [htl]; exact hcut) (fun x hx => (hblk x (by
        rw [htl] at hx
        cases a2 with
        | none => cases hx
        | some q => exact hx)).2) (by rw [htl]; omega) hroom
      rw [htl] at hput
      have hputX : ∀ x, (X x ∨ (Value.slice a2 (d + t) c2).ownBlock = some x) ↔ X x := fun x => ⟨fun h => h.elim id (fun hx => (hblk x (by
        cases a2 with
        | none => cases hx
        | some q => exact hx)).1), .inl⟩
      have HPUT := Lib.hid hput
      have HPX := Lib.hid hputX
      have hst : (s : Int) + (t : Int) ≤ 9223372036854775807 := by omega
      clear hput hputX hroom htl hcut W5 hblk
      go_wp2_with fail
      refine HPUT.out.mono ?_
      rintro e w7 ⟨rfl, ⟨F7, ks7, D7⟩, Q7⟩
      have D7' := D7.sameX HPX.out
      have hpX := H5.xp
      have hmX := H5.xm
      have SQ : DStep X X w5 w7 := ⟨Q7.os, Q7.tape, Q7.output, Q7.size, fun j hj hX => Q7.block j hj (fun e => hX (by rw [e]; exact hpX)) (fun e => hX (by rw [e]; exact hmX)), fun j hj => .inl hj⟩
      have O7 := own_same (w' := w7) O5 (fun x hx => SQ.block x (O5.lt x hx).2 (fun hX => by
        have h1 := (O5.lt x hx).1
        have h2 := hgX x hX
        omega))
      have K7 := rvSame (w' := w7) K2 (fun j hj hv => (SW5.trans SQ).block j hj (HKX.out j hv))
      have S7 := S5.trans SQ
      have hnx := HNX.out
      have HS7 : Hid ((D.cutI keep fl (i + 1)).2 = s + t) := Lib.hid (by rw [hnx])
      have hE7 : (D.cutI keep fl (i + 1)).1 = E.put k (bs.take (d + t)) d := by rw [hnx]
      rw [← hE7] at D7'
      clear HPUT HPX D7 H5 hf5 k0 k1 O5 SW5 S5 hnx hE7
      go_wp2_with fail
      refine ⟨⟨i + 1, s + t, _, _, by simp, by simp, hlt, by omega, HS7, D7', O7, K7, S7⟩, ?_⟩
      show n - ((i : Int) + 1).toNat < n - ((i : Int)).toNat
      omega
    · obtain rfl : i = n := by omega
      have hR := HR.out
      obtain ⟨E, hE⟩ : ∃ E, (D.cutI keep fl i).1 = E := ⟨_, rfl⟩
      rw [hE, HS.out] at hR
      rw [hE] at H2
      have hs8 : 8 * s ≤ 8 * (64 * 16777216) := by omega
      clear hE H1 S1 K1
      by_cases hfl : 0 ≤ flip ∧ 0 < s
      · rw [if_pos hfl] at hR
        obtain ⟨fn, rfl⟩ : ∃ fn : Nat, flip = (fn : Int) := ⟨flip.toNat, by omega⟩
        rw [Int.toNat_natCast] at hR
        obtain ⟨b, hb⟩ : ∃ b, fn % (8 * s) = b := ⟨_, rfl⟩
        rw [hb] at hR
        have hbs : b < 8 * s := by rw [← hb]; exact Nat.mod_lt _ (by omega)
        have hmod : ((fn : Int)).tmod (8 * (s : Int)) = (b : Int) := by
          rw [Int.tmod_eq_emod_of_nonneg (by omega), ← hb, Int.natCast_emod]
          rfl
        have hb0 : ¬ (8 * (s : Int)) = 0 := by omega
        have hs0 : (0 : Int) < (s : Int) := by omega
        have hf0 : (0 : Int) ≤ (fn : Int) := by omega
        have hb64 : (b : Int) ≤ 9223372036854775807 := by omega
        have HRR := Lib.hid hR
        clear hR hb
        go_wp2_with fail
        refine (invert_any b hb64 W H2).mono ?_
        rintro e W4 ⟨rfl, H4, S4⟩
        replace S4 := S2.trans S4
        clear H2 S2 K2 O2
        go_wp2_with fail
        refine (harden_any W4 H4).mono ?_
        rintro e w5 ⟨rfl, F5, ks5, H5, S5⟩
        have S5' := S4.trans S5
        have c3 := H5.c3
        have c4 := H5.c4
        have c5 := H5.c5
        have fz := fun j => H5.fz j
        have hb := H5.blk
        unfold dkO at hb
        have HB := Lib.hid hb
        have HH5 := Lib.hid H5
        clear hb H5 H4
        go_wp2_with fail
        go_end0
        have hD : DiskAt (((w5.setCell ⟨p, 3, none⟩ (.bool false)).setCell ⟨p, 4, none⟩ (.bool false)).setCell ⟨p, 5, none⟩ (.int .i64 0)) p mb F5 ks5 X R := by
          rw [← HRR.out]
          refine HH5.out.turn ?_ (by simp) (fun k _ hp => (Below.heap_setCell _ _ _ _ hp).trans ((Below.heap_setCell _ _ _ _ hp).trans (Below.heap_setCell _ _ _ _ hp))) rfl rfl (by show (0 : Nat) ≤ _; omega)
          have := setBlk (setBlk (setBlk HB.out 3 (.bool false)) 4 (.bool false)) 5 (.int .i64 0)
          simp only [List.setIfInBounds_toArray, List.set_cons_succ, List.set_cons_zero] at this
          unfold dkO
          exact this
        have hX := HH5.out.xp
        have hN : ∀ j, ¬ X j → j ≠ p := fun j hj e => hj (by rw [e]; exact hX)
        exact ⟨rfl, F5, ks5, hD, S5'.trans ⟨rfl, rfl, rfl, by simp, fun j _ hj => (Below.heap_setCell _ _ _ _ (hN j hj)).trans ((Below.heap_setCell _ _ _ _ (hN j hj)).trans (Below.heap_setCell _ _ _ _ (hN j hj))), fun j hj => .inl hj⟩⟩
      · rw [if_neg hfl] at hR
        have HRR := Lib.hid hR
        have H4 := H2
        have S4 := S2
        clear hR H2 S2 K2 O2
        rename World => W4
        by_cases hf0 : 0 ≤ flip
        · obtain rfl : s = 0 := by omega
          go_wp2_with fail
          refine (harden_any W4 H4).mono ?_
          rintro e w5 ⟨rfl, F5, ks5, H5, S5⟩
          have S5' := S4.trans S5
          have c3 := H5.c3
          have c4 := H5.c4
          have c5 := H5.c5
          have fz := fun j => H5.fz j
          have hb := H5.blk
          unfold dkO at hb
          have HB := Lib.hid hb
          have HH5 := Lib.hid H5
          clear hb H5 H4
          go_wp2_with fail
          go_end0
          have hD : DiskAt (((w5.setCell ⟨p, 3, none⟩ (.bool false)).setCell ⟨p, 4, none⟩ (.bool false)).setCell ⟨p, 5, none⟩ (.int .i64 0)) p mb F5 ks5 X R := by
            rw [← HRR.out]
            refine HH5.out.turn ?_ (by simp) (fun k _ hp => (Below.heap_setCell _ _ _ _ hp).trans ((Below.heap_setCell _ _ _ _ hp).trans (Below.heap_setCell _ _ _ _ hp))) rfl rfl (by show (0 : Nat) ≤ _; omega)
            have := setBlk (setBlk (setBlk HB.out 3 (.bool false)) 4 (.bool false)) 5 (.int .i64 0)
            simp only [List.setIfInBounds_toArray, List.set_cons_succ, List.set_cons_zero] at this
            unfold dkO
            exact this
          have hX := HH5.out.xp
          have hN : ∀ j, ¬ X j → j ≠ p := fun j hj e => hj (by rw [e]; exact hX)
          exact ⟨rfl, F5, ks5, hD, S5'.trans ⟨rfl, rfl, rfl, by simp, fun j _ hj => (Below.heap_setCell _ _ _ _ (hN j hj)).trans ((Below.heap_setCell _ _ _ _ (hN j hj)).trans (Below.heap_setCell _ _ _ _ (hN j hj))), fun j hj => .inl hj⟩⟩
        · go_wp2_with fail
          refine (harden_any W4 H4).mono ?_
          rintro e w5 ⟨rfl, F5, ks5, H5, S5⟩
          have S5' := S4.trans S5
          have c3 := H5.c3
          have c4 := H5.c4
          have c5 := H5.c5
          have fz := fun j => H5.fz j
          have hb := H5.blk
          unfold dkO at hb
          have HB := Lib.hid hb
          have HH5 := Lib.hid H5
          clear hb H5 H4
          go_wp2_with fail
          go_end0
          have hD : DiskAt (((w5.setCell ⟨p, 3, none⟩ (.bool false)).setCell ⟨p, 4, none⟩ (.bool false)).setCell ⟨p, 5, none⟩ (.int .i64 0)) p mb F5 ks5 X R := by
            rw [← HRR.out]
            refine HH5.out.turn ?_ (by simp) (fun k _ hp => (Below.heap_setCell _ _ _ _ hp).trans ((Below.heap_setCell _ _ _ _ hp).trans (Below.heap_setCell _ _ _ _ hp))) rfl rfl (by show (0 : Nat) ≤ _; omega)
            have := setBlk (setBlk (setBlk HB.out 3 (.bool false)) 4 (.bool false)) 5 (.int .i64 0)
            simp only [List.setIfInBounds_toArray, List.set_cons_succ, List.set_cons_zero] at this
            unfold dkO
            exact this
          have hX := HH5.out.xp
          have hN : ∀ j, ¬ X j → j ≠ p := fun j hj e => hj (by rw [e]; exact hX)
          exact ⟨rfl, F5, ks5, hD, S5'.trans ⟨rfl, rfl, rfl, by simp, fun j _ hj => (Below.heap_setCell _ _ _ _ (hN j hj)).trans ((Below.heap_setCell _ _ _ _ (hN j hj)).trans (Below.heap_setCell _ _ _ _ (hN j hj))), fun j hj => .inl hj⟩⟩
end Go.Proofs.YtpehnggglolnoaaGreat

/- Package disk: Copy. -/
namespace Go.Proofs.YtpehnggglolnoaaGreat
open Go.RowKit

/-- A map of files without its disk. -/
structure RowsAt (w : World) (mb : Nat) (F : Int → Option Value) (ks : List Int) (X : Nat → Prop) (fs : Int → List UInt8 × Nat) : Prop where
  map : MapF w mb F ks
  emp : ∀ k, (fs k).1 = [] → F k = none ∧ (fs k).2 = 0
  ful : ∀ k, (fs k).1 ≠ [] → 0 ≤ k ∧ k < 64 ∧ ∃ a c, F k = some (.agg #[.slice a (fs k).1.length c, .int .i64 ((fs k).2 : Int)])
  row : ∀ k v d, F k = some (.agg #[v, d]) → w.ownsRow 0 5 1 v (fs k).1.length ((fs k).1.map vB) ∧ ∀ b, v.ownBlock = some b → X b ∧ b ≠ mb
  sep : ∀ j k u v d e b, j ≠ k → F j = some (.agg #[u, d]) → F k = some (.agg #[v, e]) → u.ownBlock = some b → v.ownBlock ≠ some b
  dur : ∀ k, (fs k).2 ≤ (fs k).1.length
  xl : ∀ b, X b → b < w.heap.size
section
variable {w w' : World} {mb : Nat} {F F' : Int → Option Value} {ks ks' : List Int} {X : Nat → Prop} {fs : Int → List UInt8 × Nat}
theorem RowsAt.kept (h : RowsAt w mb F ks X fs) (hs : w.heap.size ≤ w'.heap.size) (hm : w'.heap[mb]? = w.heap[mb]?) (hb : ∀ b, X b → w'.heap[b]? = w.heap[b]?) : RowsAt w' mb F ks X fs :=
  ⟨h.map.kept hm, h.emp, h.ful, fun k v d hF => ⟨own_same (h.row k v d hF).1 (fun b hv => hb b ((h.row k v d hF).2 b hv).1), (h.row k v d hF).2⟩, h.sep, h.dur, fun b hX => Nat.lt_of_lt_of_le (h.xl b hX) hs⟩
theorem RowsAt.later (h : RowsAt w mb F ks X fs) (B : Below w.heap.size w w') : RowsAt w' mb F ks X fs := h.kept B.size (B.block mb h.map.lt) (fun b hX => B.block b (h.xl b hX))
/-- A file comes in. -/
theorem RowsAt.put (h : RowsAt w mb F ks X fs) {k : Int} (hk : 0 ≤ k ∧ k < 64) {bs : List UInt8} (hne : bs ≠ []) {a : Option Addr} {c d : Nat} (hd : d ≤ bs.length)
    (hv : w.ownsRow 0 5 1 (.slice a bs.length c) bs.length (bs.map vB)) (hvb : ∀ x, (Value.slice a bs.length c).ownBlock = some x → ¬ X x ∧ x ≠ mb)
    (hm : MapF w' mb F' ks') (hF : ∀ x, F' x = if x = k then some (.agg #[.slice a bs.length c, .int .i64 (d : Int)]) else F x) (hg : w.grownBy w' (some mb)) :
    RowsAt w' mb F' ks' (fun x => X x ∨ (Value.slice a bs.length c).ownBlock = some x) (fun j => if j = k then (bs, d) else fs j) := by
  refine ⟨hm, fun j hj => ?_, fun j hj => ?_, fun j v e hj => ?_, fun i j u v e f x hij hi hj hu hv3 => ?_, fun j => ?_, fun x hx => ?_⟩
  · by_cases hjk : j = k
    · subst hjk
      simp only [if_true] at hj
      exact absurd hj hne
    · simp only [if_neg hjk] at hj ⊢
      rw [hF, if_neg hjk]
      exact h.emp j hj
  · by_cases hjk : j = k
    · subst hjk
      simp only [if_true]
      exact ⟨hk.1, hk.2, a, c, by rw [hF, if_pos rfl]⟩
    · simp only [if_neg hjk] at hj ⊢
      rw [hF, if_neg hjk]
      exact h.ful j hj
  · rw [hF] at hj
    by_cases hjk : j = k
    · subst hjk
      rw [if_pos rfl] at hj
      cases hj
      simp only [if_true]
      exact ⟨own_same hv (fun x hx => hg.block x (hv.lt x hx).2 (fun e => (hvb x hx).2 (Option.some.inj e))), fun x hx => ⟨.inr hx, (hvb x hx).2⟩⟩
    · rw [if_neg hjk] at hj
      simp only [if_neg hjk]
      obtain ⟨h1, h2⟩ := h.row j v e hj
      exact ⟨own_same h1 (fun x hx => hg.block x (h1.lt x hx).2 (fun e => (h2 x hx).2 (Option.some.inj e))), fun x hx => ⟨.inl (h2 x hx).1, (h2 x hx).2⟩⟩
  · rw [hF] at hi hj
    by_cases hik : i = k
    · subst hik
      rw [if_pos rfl] at hi
      rw [if_neg (fun e => hij e.symm)] at hj
      cases hi
      exact (hvb x hu).1 ((h.row j v f hj).2 x hv3).1
    · rw [if_neg hik] at hi
      by_cases hjk : j = k
      · subst hjk
        rw [if_pos rfl] at hj
        cases hj
        exact (hvb x hv3).1 ((h.row i u e hi).2 x hu).1
      · rw [if_neg hjk] at hj
        exact h.sep i j u v e f x hij hi hj hu hv3
  · by_cases hjk : j = k
    · simp only [if_pos hjk]; exact hd
    · simp only [if_neg hjk]; exact h.dur j
  · rcases hx with hx | hx
    · exact Nat.lt_of_lt_of_le (h.xl x hx) hg.size
    · exact Nat.lt_of_lt_of_le (hv.lt x hx).2 hg.size
end
def Dk.only (D : Dk) (l : List Int) : Int → List UInt8 × Nat := fun k => if k ∈ l then D.fs k else ([], 0)
theorem only_snoc (D : Dk) (l : List Int) (k : Int) : D.only (l ++ [k]) = fun j => if j = k then D.fs k else D.only l j := by
  funext j
  by_cases hj : j = k
  · subst hj; simp [Dk.only]
  · simp [Dk.only, hj]
theorem only_all (D : Dk) (h0 : ∀ k, (D.fs k).1 = [] → (D.fs k).2 = 0) (h1 : ∀ k, (D.fs k).1 ≠ [] → 0 ≤ k ∧ k < 64) : D.only D.files = D.fs := by
  funext k
  unfold Dk.only
  by_cases hk : k ∈ D.files
  · rw [if_pos hk]
  · rw [if_neg hk]
    have he : (D.fs k).1 = [] := Decidable.byContradiction fun he => hk ((files_mem D k).2 ⟨(h1 k he).1, (h1 k he).2, he⟩)
    rw [← Prod.eta (D.fs k), he, h0 k he]
end Go.Proofs.YtpehnggglolnoaaGreat

/- Package disk: the contracts in one form; lives. -/
namespace Go.Proofs.YtpehnggglolnoaaGreat
open Go.RowKit

/-- The disk D lies in block p; its blocks are X. -/
def DAt (w : World) (p : Nat) (X : Nat → Prop) (D : Dk) : Prop := ∃ mb F ks, DiskAt w p mb F ks X D
/-- What two things lie in is apart. -/
def Sep (X Z : Nat → Prop) : Prop := ∀ b, X b → ¬ Z b
def Off (v : Value) (X : Nat → Prop) : Prop := ∀ b, v.ownBlock = some b → ¬ X b
section
variable {w w' : World} {p q : Nat} {X X' Y Z : Nat → Prop} {D E : Dk}
theorem DAt.xl (h : DAt w p X D) : ∀ b, X b → b < w.heap.size := by obtain ⟨_, _, _, h⟩ := h; exact h.xl
theorem DAt.xp (h : DAt w p X D) : X p := by obtain ⟨_, _, _, h⟩ := h; exact h.xp
theorem DAt.later (h : DAt w p X D) (B : Below w.heap.size w w') : DAt w' p X D := by obtain ⟨_, _, _, h⟩ := h; exact ⟨_, _, _, h.later B⟩
theorem DAt.other (h : DAt w q Z E) (S : DStep X X' w w') (hs : Sep X Z) : DAt w' q Z E := by
  obtain ⟨mb, F, ks, h⟩ := h
  exact ⟨mb, F, ks, h.kept S.size (fun b hb => S.block b (h.xl b hb) (fun hx => hs b hx hb))⟩
theorem Sep.step (hs : Sep X Z) (S : DStep X X' w w') (hz : ∀ b, Z b → b < w.heap.size) : Sep X' Z := fun b hb hZ => (S.grow b hb).elim (fun h => hs b h hZ) (fun h => by have := hz b hZ; omega)
theorem Sep.symm (hs : Sep X Z) : Sep Z X := fun b hz hx => hs b hx hz
theorem Off.step {base n : Nat} {e : TypeId} {v : Value} {xs : List Value} (ho : Off v X) (S : DStep X X' w w') (hO : w.ownsRow base e 1 v n xs) : Off v X' := fun b hb hx => (S.grow b hx).elim (ho b hb) (fun h => by have := (hO.lt b hb).2; omega)
theorem own_step {base n : Nat} {e : TypeId} {v : Value} {xs : List Value} (hO : w.ownsRow base e 1 v n xs) (S : DStep X X' w w') (ho : Off v X) : w'.ownsRow base e 1 v n xs := own_same hO (fun b hb => S.block b (hO.lt b hb).2 (ho b hb))
theorem Off.ge {base n : Nat} {e : TypeId} {v : Value} {xs : List Value} (hO : w.ownsRow base e 1 v n xs) (hX : ∀ b, X b → b < base) : Off v X := fun b hb hx => by have := (hO.lt b hb).1; have := hX b hx; omega
theorem Off.lo {base n : Nat} {e : TypeId} {v : Value} {xs : List Value} (hO : w.ownsRow base e 1 v n xs) (hX : ∀ b, X b → w.heap.size ≤ b) : Off v X := fun b hb hx => by have := (hO.lt b hb).2; have := hX b hx; omega
theorem rv_step {v : Value} {n : Nat} {us : List Value} (h : Rv w v n us) (S : DStep X X' w w') (ho : Off v X) : Rv w' v n us := rvSame h (fun g hg hv => S.block g hg (ho g hv))
theorem DStep.toBelow (S : DStep X X' w w') {B : Nat} (hB : B ≤ w.heap.size) (hX : ∀ b, X b → B ≤ b) : Below B w w' := ⟨S.os, S.tape, S.output, S.size, fun k hk => S.block k (by omega) (fun hx => by have := hX k hx; omega)⟩
theorem DStep.ge (S : DStep X X' w w') {B : Nat} (hB : B ≤ w.heap.size) (hX : ∀ b, X b → B ≤ b) : ∀ b, X' b → B ≤ b := fun b hb => (S.grow b hb).elim (hX b) (fun h => by omega)
end
section
variable (w : World) {p : Nat} {X : Nat → Prop} {D : Dk}
theorem dnew (room : Int) (h0 : 0 ≤ room) (h1 : room ≤ 16777216) : Calls Tryz.prog 22 #[.int .i64 room] w fun e w' => ∃ p X, e = .returned (.tuple #[.pointer (some ⟨p, 0, none⟩), .int .i64 0]) ∧ DAt w' p X (newD room) ∧ (∀ b, X b → w.heap.size ≤ b) ∧ Below w.heap.size w w' :=
  (new_any room h0 h1 w).mono fun _ _ ⟨he, hD, hB⟩ => ⟨_, _, he, ⟨_, _, _, hD⟩, fun b hb => by rcases hb with rfl | rfl <;> omega, hB⟩
theorem dappend (k : Int) (bv : Value) (b : List UInt8) (h : DAt w p X D) (hb : Rv w bv b.length (b.map vB)) (hbX : Off bv X) (hbl : b.length ≤ 1000000000) :
    Calls Tryz.prog 35 #[.pointer (some ⟨p, 0, none⟩), .int .i64 k, bv] w fun e w' => e = .returned (.int .i64 (D.append k b).1) ∧ ∃ X', DAt w' p X' (D.append k b).2 ∧ DStep X X' w w' := by
  obtain ⟨mb, F, ks, h⟩ := h
  refine (append_any k bv b w h hb hbX hbl).mono ?_
  rintro e w' ⟨rfl, F', ks', X', hD, S⟩
  exact ⟨rfl, X', ⟨_, _, _, hD⟩, S⟩
theorem dread (k : Int) (h : DAt w p X D) : Calls Tryz.prog 19 #[.pointer (some ⟨p, 0, none⟩), .int .i64 k] w fun e w' => ∃ v, e = .returned (.tuple #[v, .int .i64 (D.read k).2]) ∧ w'.ownsRow w.heap.size 5 1 v (D.read k).1.length ((D.read k).1.map vB) ∧ Below w.heap.size w w' := by
  obtain ⟨mb, F, ks, h⟩ := h
  refine (dkRead_any k w h).mono ?_
  rintro e w' ⟨v, rfl, M⟩
  have := M.1
  rw [List.length_map] at this
  exact ⟨v, rfl, this, M.2⟩
theorem dtrunc (k s : Int) (hs : s ≤ 9223372036854775807) (h : DAt w p X D) : Calls Tryz.prog 24 #[.pointer (some ⟨p, 0, none⟩), .int .i64 k, .int .i64 s] w fun e w' => e = .returned (.int .i64 (D.trunc k s).1) ∧ ∃ X', DAt w' p X' (D.trunc k s).2 ∧ DStep X X' w w' := by
  obtain ⟨mb, F, ks, h⟩ := h
  refine (trunc_any k s hs w h).mono ?_
  rintro e w' ⟨rfl, F', ks', X', hD, S⟩
  exact ⟨rfl, X', ⟨_, _, _, hD⟩, S⟩
theorem dsync (h : DAt w p X D) : Calls Tryz.prog 25 #[.pointer (some ⟨p, 0, none⟩)] w fun e w' => e = .returned (.int .i64 D.sync.1) ∧ DAt w' p X D.sync.2 ∧ DStep X X w w' := by
  obtain ⟨mb, F, ks, h⟩ := h
  refine (sync_any w h).mono ?_
  rintro e w' ⟨rfl, F', ks', hD, S⟩
  exact ⟨rfl, ⟨_, _, _, hD⟩, S⟩
theorem darm (n : Int) (hn : n ≤ 9223372036854775807) (h : DAt w p X D) : Calls Tryz.prog 9 #[.pointer (some ⟨p, 0, none⟩), .int .i64 n] w fun e w' => e = .returned (.tuple #[]) ∧ DAt w' p X (D.arm n) ∧ DStep X X w w' := by
  obtain ⟨mb, F, ks, h⟩ := h
  refine (arm_any n hn w h).mono ?_
  rintro e w' ⟨rfl, hD, S⟩
  exact ⟨rfl, ⟨_, _, _, hD⟩, S.toD h.xp⟩
theorem dcrash (keep : List Int) (kv : Value) (flip : Int) (hf64 : flip ≤ 9223372036854775807) (hk64 : ∀ x ∈ keep, x ≤ 9223372036854775807) (h : DAt w p X D) (hkv : Rv w kv keep.length (keep.map (Value.int .i64))) (hkX : Off kv X) :
    Calls Tryz.prog 11 #[.pointer (some ⟨p, 0, none⟩), kv, .int .i64 flip] w fun e w' => e = .returned (.tuple #[]) ∧ DAt w' p X (D.crash keep flip) ∧ DStep X X w w' := by
  obtain ⟨mb, F, ks, h⟩ := h
  refine (crash_any keep kv flip hf64 hk64 w h hkv hkX).mono ?_
  rintro e w' ⟨rfl, F', ks', hD, S⟩
  exact ⟨rfl, ⟨_, _, _, hD⟩, S⟩
theorem dfiles (h : DAt w p X D) : Calls Tryz.prog 29 #[.pointer (some ⟨p, 0, none⟩)] w fun e w' => ∃ v, e = .returned v ∧ w'.ownsRow w.heap.size 3 1 v D.files.length (D.files.map (Value.int .i64)) ∧ Below w.heap.size w w' := by
  obtain ⟨mb, F, ks, h⟩ := h
  refine (files_any w h).mono ?_
  rintro e w' ⟨v, rfl, M⟩
  have := M.1
  rw [List.length_map] at this
  exact ⟨v, rfl, this, M.2⟩
end
def lv1 : Dk := ((newD 100).append 3 [1, 2]).2
def lv2 : Dk := lv1.sync.2
def lv3 : Dk := (lv2.append 3 [255]).2
def lv4 : Dk := lv3.crash [1] 7
def lv5 : Dk := lv3.crash [] 7
def lv6 : Dk := lv5.arm 0
def lv7 : Dk := (lv6.append 1 []).2
theorem lv4_read : lv4.read 3 = ([1, 2, 254], 0) := by kernel_rfl
theorem lv5_read : lv5.read 3 = ([1, 2], 0) := by kernel_rfl
theorem lv6_append : (lv6.append 1 []).1 = 19 := by kernel_rfl
theorem lv7_read : lv7.read 3 = ([], 19) := by kernel_rfl
end Go.Proofs.YtpehnggglolnoaaGreat
