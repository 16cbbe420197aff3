/- Package disk: Copy. -/
import Derived.Test.YtmofakcpldbbmaaDoorDskJ
namespace Go.Proofs.YtmofakcpldbbmaaDoor
open Go.RowKit

/-- A map of files without its disk. -/
structure RowsAt (w : World) (mb : Nat) (F : Int → Option Value) (ks : List Int) (X : Nat → Prop) (fs : Int → List UInt8 × Nat) : Prop where
  map : MapF w mb F ks
  emp : ∀ k, (fs k).1 = [] → F k = none ∧ (fs k).2 = 0
  ful : ∀ k, (fs k).1 ≠ [] → 0 ≤ k ∧ k < 64 ∧ ∃ a c, F k = some (.agg #[.slice a (fs k).1.length c, .int .i64 ((fs k).2 : Int)])
  row : ∀ k v d, F k = some (.agg #[v, d]) → w.ownsRow 0 5 1 v (fs k).1.length ((fs k).1.map vB) ∧ ∀ b, v.ownBlock = some b → X b ∧ b ≠ mb
  sep : ∀ j k u v d e b, j ≠ k → F j = some (.agg #[u, d]) → F k = some (.agg #[v, e]) → u.ownBlock = some b → v.ownBlock ≠ some b
  dur : ∀ k, (fs k).2 ≤ (fs k).1.length
  xl : ∀ b, X b → b < w.heap.size
section
variable {w w' : World} {mb : Nat} {F F' : Int → Option Value} {ks ks' : List Int} {X : Nat → Prop} {fs : Int → List UInt8 × Nat}
theorem RowsAt.kept (h : RowsAt w mb F ks X fs) (hs : w.heap.size ≤ w'.heap.size) (hm : w'.heap[mb]? = w.heap[mb]?) (hb : ∀ b, X b → w'.heap[b]? = w.heap[b]?) : RowsAt w' mb F ks X fs :=
  ⟨h.map.kept hm, h.emp, h.ful, fun k v d hF => ⟨own_same (h.row k v d hF).1 (fun b hv => hb b ((h.row k v d hF).2 b hv).1), (h.row k v d hF).2⟩, h.sep, h.dur, fun b hX => Nat.lt_of_lt_of_le (h.xl b hX) hs⟩
theorem RowsAt.later (h : RowsAt w mb F ks X fs) (B : Below w.heap.size w w') : RowsAt w' mb F ks X fs := h.kept B.size (B.block mb h.map.lt) (fun b hX => B.block b (h.xl b hX))
/-- A file comes in. -/
theorem RowsAt.put (h : RowsAt w mb F ks X fs) {k : Int} (hk : 0 ≤ k ∧ k < 64) {bs : List UInt8} (hne : bs ≠ []) {a : Option Addr} {c d : Nat} (hd : d ≤ bs.length)
    (hv : w.ownsRow 0 5 1 (.slice a bs.length c) bs.length (bs.map vB)) (hvb : ∀ x, (Value.slice a bs.length c).ownBlock = some x → ¬ X x ∧ x ≠ mb)
    (hm : MapF w' mb F' ks') (hF : ∀ x, F' x = if x = k then some (.agg #[.slice a bs.length c, .int .i64 (d : Int)]) else F x) (hg : w.grownBy w' (some mb)) :
    RowsAt w' mb F' ks' (fun x => X x ∨ (Value.slice a bs.length c).ownBlock = some x) (fun j => if j = k then (bs, d) else fs j) := by
  refine ⟨hm, fun j hj => ?_, fun j hj => ?_, fun j v e hj => ?_, fun i j u v e f x hij hi hj hu hv3 => ?_, fun j => ?_, fun x hx => ?_⟩
  · by_cases hjk : j = k
    · subst hjk
      simp only [if_true] at hj
      exact absurd hj hne
    · simp only [if_neg hjk] at hj ⊢
      rw [hF, if_neg hjk]
      exact h.emp j hj
  · by_cases hjk : j = k
    · subst hjk
      simp only [if_true]
      exact ⟨hk.1, hk.2, a, c, by rw [hF, if_pos rfl]⟩
    · simp only [if_neg hjk] at hj ⊢
      rw [hF, if_neg hjk]
      exact h.ful j hj
  · rw [hF] at hj
    by_cases hjk : j = k
    · subst hjk
      rw [if_pos rfl] at hj
      cases hj
      simp only [if_true]
      exact ⟨own_same hv (fun x hx => hg.block x (hv.lt x hx).2 (fun e => (hvb x hx).2 (Option.some.inj e))), fun x hx => ⟨.inr hx, (hvb x hx).2⟩⟩
    · rw [if_neg hjk] at hj
      simp only [if_neg hjk]
      obtain ⟨h1, h2⟩ := h.row j v e hj
      exact ⟨own_same h1 (fun x hx => hg.block x (h1.lt x hx).2 (fun e => (h2 x hx).2 (Option.some.inj e))), fun x hx => ⟨.inl (h2 x hx).1, (h2 x hx).2⟩⟩
  · rw [hF] at hi hj
    by_cases hik : i = k
    · subst hik
      rw [if_pos rfl] at hi
      rw [if_neg (fun e => hij e.symm)] at hj
      cases hi
      exact (hvb x hu).1 ((h.row j v f hj).2 x hv3).1
    · rw [if_neg hik] at hi
      by_cases hjk : j = k
      · subst hjk
        rw [if_pos rfl] at hj
        cases hj
        exact (hvb x hv3).1 ((h.row i u e hi).2 x hu).1
      · rw [if_neg hjk] at hj
        exact h.sep i j u v e f x hij hi hj hu hv3
  · by_cases hjk : j = k
    · simp only [if_pos hjk]; exact hd
    · simp only [if_neg hjk]; exact h.dur j
  · rcases hx with hx | hx
    · exact Nat.lt_of_lt_of_le (h.xl x hx) hg.size
    · exact Nat.lt_of_lt_of_le (hv.lt x hx).2 hg.size
end
def Dk.only (D : Dk) (l : List Int) : Int → List UInt8 × Nat := fun k => if k ∈ l then D.fs k else ([], 0)
theorem only_snoc (D : Dk) (l : List Int) (k : Int) : D.only (l ++ [k]) = fun j => if j = k then D.fs k else D.only l j := by
  funext j
  by_cases hj : j = k
  · subst hj; simp [Dk.only]
  · simp [Dk.only, hj]
theorem only_all (D : Dk) (h0 : ∀ k, (D.fs k).1 = [] → (D.fs k).2 = 0) (h1 : ∀ k, (D.fs k).1 ≠ [] → 0 ≤ k ∧ k < 64) : D.only D.files = D.fs := by
  funext k
  unfold Dk.only
  by_cases hk : k ∈ D.files
  · rw [if_pos hk]
  · rw [if_neg hk]
    have he : (D.fs k).1 = [] := Decidable.byContradiction fun he => hk ((files_mem D k).2 ⟨(h1 k he).1, (h1 k he).2, he⟩)
    rw [← Prod.eta (D.fs k), he, h0 k he]
set_option maxRecDepth 20000 in
set_option maxHeartbeats 2000000 in
theorem copy_any (w : World) {p mb : Nat} {F : Int → Option Value} {ks : List Int} {X : Nat → Prop} {D : Dk} (h : DiskAt w p mb F ks X D) :
    Calls Tryd.prog 25 #[.pointer (some ⟨p, 0, none⟩)] w fun e w' => ∃ q mb' F' ks' Y, e = .returned (.pointer (some ⟨q, 0, none⟩)) ∧ DiskAt w' q mb' F' ks' Y D ∧ (∀ b, Y b → w.heap.size ≤ b) ∧ Below w.heap.size w w' := by
  have c0 := h.c0
  have c1 := h.c1
  have c2 := h.c2
  have c3 := h.c3
  have c4 := h.c4
  have c5 := h.c5
  have hlen := h.map.len (P := Tryd.prog) (t := 42) (K := 3) (e := 51) Tryd.underlyingMapF 3
  have HH := Lib.hid h
  clear h
  go_enter Tryd.func25, Tryd.ntmps25
  go_upto_region 2 with fail
  have BA := (Below.refl w.heap.size w).alloc (Nat.le_refl _) (dkO D mb)
  have hq := World.alloc_heap_new w (dkO D mb)
  have H1 := HH.out.later BA
  have hq1 : (w.alloc (dkO D mb)).heap.size = w.heap.size + 1 := by simp
  have hw1 : (w.alloc (.cells #[.int .i64 D.room, .int .i64 (D.used : Int), .map (some mb), .bool D.off, .bool D.armed, .int .i64 (D.left : Int)] 44)) = w.alloc (dkO D mb) := rfl
  rw [hw1]
  clear hw1 hlen c0 c1 c2 c3 c4 c5
  generalize w.alloc (dkO D mb) = w1 at BA hq H1 hq1 ⊢
  obtain ⟨q, hqe⟩ : ∃ q, w.heap.size = q := ⟨_, rfl⟩
  rw [hqe] at hq hq1 ⊢
  have c2 := H1.c2
  have hlen := H1.map.len (P := Tryd.prog) (t := 42) (K := 3) (e := 51) Tryd.underlyingMapF 3
  have hmk : ∀ n : Nat, (Instr.makeMap 42 (some (.int .i64 (n : Int)))).run Tryd.prog w1 = .ok (.map (some w1.heap.size)) (w1.alloc (.map #[] 0)) := fun n => by simp [Instr.makeMap, run_underlying Tryd.underlyingMapF, Result.andThen, asInt, asIntOf]
  have hqf : ∀ j, (w1.alloc (.map #[] 0)).frozen? ⟨q, j, none⟩ = false := fun j => by
    have := Below.heap_alloc w1 (.map #[] 0) q (by omega)
    rw [hq] at this
    unfold dkO at this
    simp [World.frozen?, this]
  have hq2 : w1.cell? ⟨q, 2, none⟩ = some (.map (some mb)) := by
    unfold dkO at hq
    simp [World.cell?, hq]
  go_upto_region 3 with fail
  have hqs := Below.heap_setCell w1 ⟨q, 2, none⟩ (.map (some (q + 1)))
  have hss : (w1.setCell ⟨q, 2, none⟩ (.map (some (q + 1)))).heap.size = q + 1 := by rw [World.size_setCell, hq1]
  have hbs : (w1.setCell ⟨q, 2, none⟩ (.map (some (q + 1)))).heap[q]? = some (dkO D (q + 1)) := by
    unfold dkO at hq
    have := setBlk hq 2 (.map (some (q + 1)))
    simp only [List.setIfInBounds_toArray, List.set_cons_succ, List.set_cons_zero] at this
    exact this
  have BS : Below w.heap.size w (w1.setCell ⟨q, 2, none⟩ (.map (some (q + 1)))) := BA.setCell (p := ⟨q, 2, none⟩) (by show w.heap.size ≤ q; omega) _
  clear BA hq H1 c2 hlen hmk hqf hq2 hqs
  generalize w1.setCell ⟨q, 2, none⟩ (.map (some (q + 1))) = w1' at hss hbs BS ⊢
  have hb2 := (Below.heap_alloc w1' (.map #[] 0) q (by omega)).trans hbs
  have hm2 := MapF.new w1'
  rw [hss] at hm2
  have B2 := BS.alloc (by omega) (.map #[] 0)
  have hs2 : (w1'.alloc (.map #[] 0)).heap.size = q + 2 := by simp; omega
  clear hss hbs BS
  generalize w1'.alloc (.map #[] 0) = w2 at hb2 hm2 B2 hs2 ⊢
  have H2 := HH.out.later B2
  go_wp2_with fail
  refine (files_any w2 H2).mono ?_
  rintro e w3 ⟨v, rfl, hM⟩
  have hM1 := hM.1
  rw [List.length_map] at hM1
  obtain ⟨a, c, rfl⟩ := own_isSlice hM1
  have H3 := H2.later hM.2
  have B3 := bel B2 hM.2
  have hb3 := (hM.2.block q (by omega)).trans hb2
  have hR3 : RowsAt w3 (q + 1) (fun _ => none) [] (fun _ => False) (D.only []) := ⟨hm2.kept (hM.2.block (q + 1) (by omega)), fun k _ => ⟨rfl, rfl⟩, fun k hk => absurd rfl hk, (fun _ _ _ h => by cases h), (fun _ _ _ _ _ _ _ _ h => by cases h), fun _ => Nat.le_refl _, fun _ h => h.elim⟩
  have HO := Lib.hid (only_all D (fun k hk => (HH.out.emp k hk).2) (fun k hk => ⟨(HH.out.ful k hk).1, (HH.out.ful k hk).2.1⟩))
  have hfl := files_len D
  have HMEM := Lib.hid (files_mem D)
  obtain ⟨fl, hfe⟩ : ∃ l, D.files = l := ⟨_, rfl⟩
  rw [hfe] at hM1 HO hfl HMEM ⊢
  obtain ⟨n, hn⟩ : ∃ n, fl.length = n := ⟨_, rfl⟩
  rw [hn] at hM1 hfl ⊢
  have HN := Lib.hid hn
  have hsz3 : q + 2 ≤ w3.heap.size := by have := hM.2.size; omega
  rw [hs2] at hM1
  clear hM hn hfe H2 B2 hb2 hm2 hs2
  go_wp2_with fail
  go_loopw [20] (fun u W => ∃ (i : Nat) (F' : Int → Option Value) (ks' : List Int) (Y : Nat → Prop), u = .int .i64 (i : Int) ∧ i ≤ n ∧ W.heap[q]? = some (dkO D (q + 1)) ∧ RowsAt W (q + 1) F' ks' Y (D.only (fl.take i)) ∧ (∀ b, Y b → q + 2 ≤ b) ∧ W.ownsRow (q + 2) 3 1 (.slice a n c) n (fl.map (Value.int .i64)) ∧ Below w.heap.size w W) (fun u _ => n - (match u with | .int _ k => k.toNat | _ => 0))
  case atStart => exact ⟨0, _, _, _, rfl, Nat.zero_le _, hb3, hR3, (fun _ h => h.elim), hM1, B3⟩
  case round =>
    rename World => W
    obtain ⟨i, F2, ks2, Y, rfl, hin, hb, hR, hY, O2, B2⟩ := hrel
    have HY := Lib.hid hY
    clear hY
    by_cases hlt : i < n
    · obtain ⟨k, hk⟩ : ∃ k, fl[i]? = some k := ⟨_, List.getElem?_eq_getElem (by rw [HN.out]; exact hlt)⟩
      have hkm := (HMEM.out k).1 (List.mem_of_getElem? hk)
      obtain ⟨g, off, ha, hc, hgb⟩ := own_at O2 hk
      subst ha
      have H4 := HH.out.later B2
      obtain ⟨a2, c2, hlook, hown, hblk⟩ := H4.old k
      have hlk := H4.look2 k hlook W rfl
      have hc2 := H4.c2
      have hdur := H4.dur k
      have hl1 := D.le_used k hkm.1 hkm.2.1
      have hl2 := H4.used
      have hl3 := H4.room
      have hsn := only_snoc D (fl.take i) k
      have ht1 : fl.take (i + 1) = fl.take i ++ [k] := by rw [List.take_add_one, hk]; rfl
      rw [← ht1] at hsn
      obtain ⟨bs, hbs⟩ : ∃ b, (D.fs k).1 = b := ⟨_, rfl⟩
      obtain ⟨d, hd⟩ : ∃ b, (D.fs k).2 = b := ⟨_, rfl⟩
      have hfk : D.fs k = (bs, d) := by rw [← hbs, ← hd]
      rw [hfk] at hlook hown hblk hlk hdur hl1 hsn hkm
      have hlb : bs.length ≤ 1000000000 := by
        show bs.length ≤ _
        have : bs.length ≤ D.used := hl1
        omega
      have HSN := Lib.hid hsn
      have HNE := Lib.hid hkm.2.2
      have hne0 := hkm.2.2
      clear hsn hbs hd hlook hk ht1 hl1 hl2 hl3 hblk
      replace hkm := And.intro hkm.1 hkm.2.1
      go_upto_region 7 with fail
      have BA := (Below.refl W.heap.size W).alloc (Nat.le_refl _) (.cells #[.slice a2 bs.length c2, .int .i64 (d : Int)] 51)
      have hf := World.alloc_heap_new W (.cells #[.slice a2 bs.length c2, .int .i64 (d : Int)] 51)
      have R3 := hR.later BA
      have hb3 := (BA.block q (Array.getElem?_eq_some_iff.1 hb).1).trans hb
      have O3 := own_below O2 BA
      have W3 := own_below hown BA
      have B3 := bel B2 BA
      have hsz4 : (W.alloc (.cells #[.slice a2 bs.length c2, .int .i64 (d : Int)] 51)).heap.size = W.heap.size + 1 := by simp
      have hqW := (Array.getElem?_eq_some_iff.1 hb).1
      have hmW := hR.map.lt
      have hYf : ∀ x, Y x → x < W.heap.size := hR.xl
      have hgf : g < W.heap.size := (O2.lt g rfl).2
      generalize W.alloc (.cells #[.slice a2 bs.length c2, .int .i64 (d : Int)] 51) = w4 at hf R3 hb3 O3 W3 B3 hsz4 ⊢
      generalize W.heap.size = fb at hf hsz4 hqW hmW hYf hgf ⊢
      clear H4 O2 hlk hc2 BA hc hown B2 hR hb
      have f0 : w4.cell? ⟨fb, 0, none⟩ = some (.slice a2 bs.length c2) := by simp [World.cell?, hf]
      have hcl := cloneB_any (.slice a2 bs.length c2) bs w4 (Rv.of_own W3) hlb
      go_wp2_with fail
      refine hcl.mono ?_
      rintro e w5 ⟨v5, rfl, M5⟩
      have O5 := M5.1
      rw [List.length_map] at O5
      obtain ⟨a5, c5, rfl⟩ := own_isSlice O5
      have B5 := M5.2
      have R5 := R3.later B5
      have hb5 := (B5.block q (by omega)).trans hb3
      have hf5 := (B5.block fb (by omega)).trans hf
      have P5 := own_below O3 B5
      have B5' := bel B3 B5
      have hsz5 := B5.size
      have hlo5 : ∀ x, (Value.slice a5 bs.length c5).ownBlock = some x → fb < x := fun x hx => by
        have := (O5.lt x hx).1
        omega
      have fz : ∀ j, w5.frozen? ⟨fb, j, none⟩ = false := fun j => by simp [World.frozen?, hf5]
      have f5 : w5.cell? ⟨fb, 0, none⟩ = some (.slice a2 bs.length c2) := by simp [World.cell?, hf5]
      clear M5 B5 R3 hb3 hf O3 W3 B3 f0 hcl
      go_upto_region 8 with fail
      have hf6 := setBlk hf5 0 (.slice a5 bs.length c5)
      simp only [List.setIfInBounds_toArray, List.set_cons_zero] at hf6
      have R6 := R5.kept (w' := w5.setCell ⟨fb, 0, none⟩ (.slice a5 bs.length c5)) (by simp) (Below.heap_setCell _ _ _ _ (by show q + 1 ≠ fb; omega)) (fun x hx => Below.heap_setCell _ _ _ _ (by have := hYf x hx; show x ≠ fb; omega))
      have hb6 := (Below.heap_setCell w5 ⟨fb, 0, none⟩ (.slice a5 bs.length c5) q (by show q ≠ fb; omega)).trans hb5
      have O6 := own_same (w' := w5.setCell ⟨fb, 0, none⟩ (.slice a5 bs.length c5)) (own_base O5 (Nat.zero_le _)) (fun x hx => Below.heap_setCell _ _ _ _ (by have := hlo5 x hx; show x ≠ fb; omega))
      have P6 := own_same (w' := w5.setCell ⟨fb, 0, none⟩ (.slice a5 bs.length c5)) P5 (fun x hx => Below.heap_setCell _ _ _ _ (by cases hx; show g ≠ fb; omega))
      have B6 := B5'.setCell (p := ⟨fb, 0, none⟩) (by show w.heap.size ≤ fb; omega) (.slice a5 bs.length c5)
      generalize w5.setCell ⟨fb, 0, none⟩ (.slice a5 bs.length c5) = w6 at hf6 R6 hb6 O6 P6 B6 ⊢
      clear R5 hb5 O5 P5 B5' hf5 fz f5
      have k0 : w6.cell? ⟨fb, 0, none⟩ = some (.slice a5 bs.length c5) := by simp [World.cell?, hf6]
      have k1 : w6.cell? ⟨fb, 1, none⟩ = some (.int .i64 (d : Int)) := by simp [World.cell?, hf6]
      have k2 : w6.cell? ⟨q, 2, none⟩ = some (.map (some (q + 1))) := by
        unfold dkO at hb6
        simp [World.cell?, hb6]
      obtain ⟨w7, hrun, hm7, g7, s7⟩ := R6.map.update (P := Tryd.prog) (t := 42) (K := 3) (e := 51) Tryd.underlyingMapF (by kernel_rfl) k (.agg #[.slice a5 bs.length c5, .int .i64 (d : Int)])
      have R7 := R6.put hkm hne0 hdur O6 (fun x hx => ⟨fun hY => by
        have h1 := hlo5 x hx
        have h2 := hYf x hY
        omega, by have h1 := hlo5 x hx; omega⟩) hm7 (fun x => rfl) g7
      rw [← HSN.out] at R7
      have hb7 := (g7.block q (Array.getElem?_eq_some_iff.1 hb6).1 (fun e => by have := Option.some.inj e; omega)).trans hb6
      have P7 := own_same (w' := w7) P6 (fun x hx => g7.block x (P6.lt x hx).2 (fun e => by
        have h1 := (P6.lt x hx).1
        have h2 := Option.some.inj e
        omega))
      have B7 : Below w.heap.size w w7 := B6.grown g7 B6.size (fun j hj => by
        have := Option.some.inj hj
        omega)
      have HY7 : Hid (∀ b, (Y b ∨ (Value.slice a5 bs.length c5).ownBlock = some b) → q + 2 ≤ b) := Lib.hid (fun b hb => hb.elim (HY.out b) (fun hb => by have := hlo5 b hb; omega))
      have HF := Lib.hid (And.intro R7 (And.intro hb7 (And.intro P7 B7)))
      clear R6 hb6 hf6 P6 B6 O6 hm7 g7 s7 R7 hb7 P7 B7
      go_wp2_with fail
      obtain ⟨R7, hb7, P7, B7⟩ := HF.out
      refine ⟨⟨i + 1, _, _, _, by simp, hlt, hb7, R7, HY7.out, P7, B7⟩, ?_⟩
      show n - ((i : Int) + 1).toNat < n - ((i : Int)).toNat
      omega
    · obtain rfl : i = n := by omega
      have ht : fl.take i = fl := List.take_of_length_le (by rw [HN.out]; exact Nat.le_refl _)
      rw [ht, HO.out] at hR
      go_wp2_with fail
      go_ret
      have hY := HY.out
      have hqW := (Array.getElem?_eq_some_iff.1 hb).1
      have h := HH.out
      refine ⟨q, q + 1, F2, ks2, fun b => Y b ∨ b = q ∨ b = q + 1, rfl, ⟨hb, hR.map, by omega, .inr (.inl rfl), .inr (.inr rfl), hR.emp, hR.ful, fun k v d _ hF => ⟨(hR.row k v d hF).1, fun b hb => ⟨.inl ((hR.row k v d hF).2 b hb).1, ?_, ((hR.row k v d hF).2 b hb).2⟩⟩, fun j k u v d e b _ _ => hR.sep j k u v d e b, hR.dur, h.room, h.used, h.left, fun b hb => ?_⟩, fun b hb => ?_, B2⟩
      · have := hY b ((hR.row k v d hF).2 b hb).1
        omega
      · rcases hb with hb | rfl | rfl
        · exact hR.xl b hb
        · exact hqW
        · exact hR.map.lt
      · rcases hb with hb | rfl | rfl
        · have := hY b hb; omega
        · omega
        · omega
end Go.Proofs.YtmofakcpldbbmaaDoor
