/- Package disk: harden. -/
import Derived.Test.YtpehnggglolnoaaDskF
namespace Go.Proofs.Ytpehnggglolnoaa
open Go.RowKit

def Dk.hardL (D : Dk) (l : List Int) : Dk := { D with fs := fun k => if k ∈ l then ((D.fs k).1, (D.fs k).1.length) else D.fs k }
def Dk.harden (D : Dk) : Dk := { D with fs := fun k => ((D.fs k).1, (D.fs k).1.length) }
theorem hardL_nil (D : Dk) : D.hardL [] = D := by simp [Dk.hardL]
theorem hardL_snoc (D : Dk) (l : List Int) (k : Int) (h : (D.fs k).1 ≠ []) : D.hardL (l ++ [k]) = (D.hardL l).put k (D.fs k).1 (D.fs k).1.length := by
  simp only [Dk.hardL, Dk.put, if_neg h]
  congr 1
  funext j
  by_cases hj : j = k
  · subst hj; simp
  · simp [hj]
theorem hardL_all (D : Dk) (h0 : ∀ k, (D.fs k).1 = [] → (D.fs k).2 = 0) (h1 : ∀ k, (D.fs k).1 ≠ [] → 0 ≤ k ∧ k < 64) : D.hardL D.files = D.harden := by
  simp only [Dk.hardL, Dk.harden]
  congr 1
  funext k
  by_cases hk : k ∈ D.files
  · rw [if_pos hk]
  · rw [if_neg hk]
    have he : (D.fs k).1 = [] := Decidable.byContradiction fun he => hk ((files_mem D k).2 ⟨(h1 k he).1, (h1 k he).2, he⟩)
    rw [he, ← Prod.eta (D.fs k), he, h0 k he]
    rfl
theorem hardL_len (D : Dk) (l : List Int) (k : Int) : ((D.hardL l).fs k).1 = (D.fs k).1 := by
  simp only [Dk.hardL]; split <;> rfl
theorem DiskX.sameX {ex : Int → Prop} {w : World} {p mb : Nat} {F : Int → Option Value} {ks : List Int} {X Y : Nat → Prop} {D : Dk} (h : DiskX ex w p mb F ks Y D) (e : ∀ x, Y x ↔ X x) : DiskX ex w p mb F ks X D := by
  rw [show X = Y from funext fun x => propext (e x).symm]
  exact h
theorem DiskX.full {w : World} {p mb : Nat} {F : Int → Option Value} {ks : List Int} {X : Nat → Prop} {D : Dk} (h : DiskAt w p mb F ks X D) {k : Int} (he : (D.fs k).1 ≠ []) {a : Option Addr} {n c : Nat} {d : Int} (hl : (F k).getD (.agg #[.slice none 0 0, .int .i64 0]) = .agg #[.slice a n c, .int .i64 d]) : F k = some (.agg #[.slice a n c, .int .i64 d]) := by
  obtain ⟨_, _, a', c', hF⟩ := h.ful k he
  rw [hF] at hl ⊢
  exact congrArg some hl
/-- Another number of durable bytes. -/
theorem DiskX.redur {w w' : World} {p mb : Nat} {F F' : Int → Option Value} {ks ks' : List Int} {X : Nat → Prop} {D : Dk} (h : DiskAt w p mb F ks X D) {k : Int} (hk : 0 ≤ k ∧ k < 64) {bs : List UInt8} (hbs : (D.fs k).1 = bs) (he : bs ≠ []) {a : Option Addr} {c d : Nat} {d0 : Int} (hl : F k = some (.agg #[.slice a bs.length c, .int .i64 d0]))
    (hd : d ≤ bs.length) (hm : MapF w' mb F' ks') (hF : ∀ x, F' x = if x = k then some (.agg #[.slice a bs.length c, .int .i64 (d : Int)]) else F x) (hg : w.grownBy w' (some mb)) : DiskAt w' p mb F' ks' X (D.put k bs d) := by
  have hu : (D.put k bs d).used = D.used := by
    have := D.used_put k bs d hk.1 hk.2
    rw [hbs] at this
    omega
  obtain ⟨h1, h2⟩ := h.row k _ _ id hl
  rw [hbs] at h1
  refine ((h.weak (fun j => j = k)).putted hk.1 hk.2 (b := bs) (a := a) (c := c) (d := d) h1 (fun x hx => ⟨(h2 x hx).2.1, (h2 x hx).2.2, fun j u e hj hFj => h.sep k j _ _ _ _ x id id (fun e => hj e.symm) hl hFj hx⟩) hd (by rw [hu]; exact h.used) ?_ hm (fun x => by rw [hF, if_neg he]) ?_).sameX ?_
  · rw [hg.block p h.lt (fun e => h.pm (Option.some.inj e)), h.blk]
    unfold dkO
    rw [hu]
    rfl
  · exact ⟨hg.os, hg.tape, hg.output, hg.size, fun x hx _ hxm => hg.block x hx (fun e => hxm (Option.some.inj e))⟩
  · exact fun x => ⟨fun hx => hx.elim id (fun hx => (h2 x hx).1), .inl⟩
set_option maxRecDepth 10000 in
set_option maxHeartbeats 1000000 in
theorem harden_any (w : World) {p mb : Nat} {F : Int → Option Value} {ks : List Int} {X : Nat → Prop} {D : Dk} (h : DiskAt w p mb F ks X D) :
    Calls Try.prog 60 #[.pointer (some ⟨p, 0, none⟩)] w fun e w' => e = .returned (.tuple #[]) ∧ ∃ F' ks', DiskAt w' p mb F' ks' X D.harden ∧ DStep X X w w' := by
  go_enter Try.func60, Try.ntmps60
  go_wp2_with fail
  refine (files_any w h).mono ?_
  rintro e w1 ⟨v, rfl, hM⟩
  have hM1 := hM.1
  rw [List.length_map] at hM1
  obtain ⟨a, c, rfl⟩ := own_isSlice hM1
  have H1 := h.later hM.2
  have S1 := DStep.ofBelow X hM.2
  have HX := Lib.hid h.xl
  have HF := Lib.hid (hardL_all D (fun k hk => (h.emp k hk).2) (fun k hk => ⟨(h.ful k hk).1, (h.ful k hk).2.1⟩))
  have hfl := files_len D
  have HMEM := Lib.hid (files_mem D)
  obtain ⟨fl, hfe⟩ : ∃ l, D.files = l := ⟨_, rfl⟩
  rw [hfe] at hM1 HF hfl HMEM ⊢
  obtain ⟨n, hn⟩ : ∃ n, fl.length = n := ⟨_, rfl⟩
  rw [hn] at hM1 hfl ⊢
  have HN := Lib.hid hn
  clear hM hn hfe h
  go_wp2_with fail
  go_loopw [8] (fun u W => ∃ (i : Nat) (F' : Int → Option Value) (ks' : List Int), u = .int .i64 (i : Int) ∧ i ≤ n ∧ DiskAt W p mb F' ks' X (D.hardL (fl.take i)) ∧ W.ownsRow w.heap.size 3 1 (.slice a n c) n (fl.map (Value.int .i64)) ∧ DStep X X w W) (fun u _ => n - (match u with | .int _ k => k.toNat | _ => 0))
  case atStart => exact ⟨0, F, ks, rfl, Nat.zero_le _, by rw [List.take_zero, hardL_nil]; exact H1, hM1, S1⟩
  case round =>
    rename World => W
    obtain ⟨i, F2, ks2, rfl, hin, H2, O2, S2⟩ := hrel
    by_cases hlt : i < n
    · obtain ⟨k, hk⟩ : ∃ k, fl[i]? = some k := ⟨_, List.getElem?_eq_getElem (by rw [HN.out]; exact hlt)⟩
      have hkm := (HMEM.out k).1 (List.mem_of_getElem? hk)
      obtain ⟨g, off, ha, hc⟩ := (Rd.cell (by
        obtain ⟨a', c', e, _, hr⟩ := (Rv.of_own O2).opened
        injection e with e1
        rw [← e1] at hr
        exact hr) (i := i) (u := .int .i64 k) (by rw [List.getElem?_map, hk]; rfl))
      subst ha
      obtain ⟨a2, c2, hlook, hown, hblk⟩ := H2.old k
      have hln : (D.fs k).1.length = ((D.hardL (fl.take i)).fs k).1.length := by rw [hardL_len]
      have hlk := H2.look2 k hlook W rfl
      have hc2 := H2.c2
      have hgX : ∀ x, X x → x < w.heap.size := HX.out
      have hgb : w.heap.size ≤ g := (O2.lt g rfl).1
      have hEl : ((D.hardL (fl.take i)).fs k).1 = (D.fs k).1 := hardL_len D _ k
      have hsn := hardL_snoc D (fl.take i) k hkm.2.2
      rw [← hEl] at hsn
      have ht1 : fl.take (i + 1) = fl.take i ++ [k] := by rw [List.take_add_one, hk]; rfl
      rw [← ht1] at hsn
      have hne : ((D.hardL (fl.take i)).fs k).1 ≠ [] := by rw [hEl]; exact hkm.2.2
      obtain ⟨E, hE⟩ : ∃ E, D.hardL (fl.take i) = E := ⟨_, rfl⟩
      rw [hE] at H2 hlook hown hblk hlk hsn hne
      obtain ⟨bs, hbs⟩ : ∃ b, (E.fs k).1 = b := ⟨_, rfl⟩
      rw [hbs] at hlook hown hlk hsn hne
      obtain ⟨d0, hd0⟩ : ∃ b, (E.fs k).2 = b := ⟨_, rfl⟩
      rw [hd0] at hlook hlk
      have hFk := H2.full (by rw [hbs]; exact hne) hlook
      have HSN := Lib.hid hsn
      have HNE := Lib.hid hne
      have HBS := Lib.hid hbs
      have HFK := Lib.hid hFk
      clear hsn hne hbs hFk hlook hE hEl hln hd0 ht1 hblk hk
      go_upto_region 5 with fail
      have BA := (Below.refl W.heap.size W).alloc (Nat.le_refl _) (.cells #[.slice a2 bs.length c2, .int .i64 (bs.length : Int)] 105)
      have hf := World.alloc_heap_new W (.cells #[.slice a2 bs.length c2, .int .i64 (bs.length : Int)] 105)
      have H3 := H2.later BA
      have O3 := own_below O2 BA
      have S3 := S2.trans (DStep.ofBelow X BA)
      generalize W.alloc (.cells #[.slice a2 bs.length c2, .int .i64 (bs.length : Int)] 105) = w3 at hf H3 O3 S3 ⊢
      generalize W.heap.size = fb at hf ⊢
      have f0d : w3.drew.cell? ⟨fb, 0, none⟩ = some (.slice a2 bs.length c2) := by show w3.cell? _ = _; simp [World.cell?, hf]
      have f1d : w3.drew.cell? ⟨fb, 1, none⟩ = some (.int .i64 (bs.length : Int)) := by show w3.cell? _ = _; simp [World.cell?, hf]
      have c2d : w3.drew.cell? ⟨p, 2, none⟩ = some (.map (some mb)) := H3.c2
      clear H2 O2 S2 hlk hc2 BA hc
      go_still_tail 6, (by kernel_rfl)
      change wpList _ _ _ _ _ w3.drew
      have H4 := H3.later (Below.refl _ _).drew
      have O4 := own_below O3 (Below.refl _ _).drew
      have S4 := S3.trans (DStep.ofBelow X (Below.refl _ _).drew)
      clear H3 O3 S3 hf
      generalize w3.drew = w4 at H4 O4 S4 f0d f1d c2d ⊢
      refine wpList_update_F (v := .agg #[.slice a2 bs.length c2, .int .i64 (bs.length : Int)]) rfl _ _ _ rfl Try.underlyingMapF (by kernel_rfl) rfl rfl rfl H4.map ?_
      intro w5 hm5 g5 s5
      have H5 := H4.redur ⟨hkm.1, hkm.2.1⟩ HBS.out HNE.out HFK.out (Nat.le_refl _) hm5 (fun x => rfl) g5
      rw [← HSN.out] at H5
      have hmx := H4.xm
      have S5 : DStep X X w w5 := S4.trans ⟨g5.os, g5.tape, g5.output, g5.size, fun x hx hX => g5.block x hx (fun e => hX (by cases e; exact hmx)), fun x hx => .inl hx⟩
      have O5 := own_same (w' := w5) O4 (fun x hx => g5.block x (O4.lt x hx).2 (fun e => by
        have h1 := (O4.lt x hx).1
        have h2 := hgX mb hmx
        have h3 := Option.some.inj e
        omega))
      clear H4 O4 S4 hm5 g5 s5 f0d f1d c2d
      go_wp2_with fail
      refine ⟨⟨i + 1, _, _, by simp, hlt, H5, O5, S5⟩, ?_⟩
      show n - ((i : Int) + 1).toNat < n - ((i : Int)).toNat
      omega
    · obtain rfl : i = n := by omega
      have ht : fl.take i = fl := List.take_of_length_le (by rw [HN.out]; exact Nat.le_refl _)
      rw [ht, HF.out] at H2
      go_wp2_with fail
      go_end0
      exact ⟨rfl, F2, ks2, H2, S2⟩
end Go.Proofs.Ytpehnggglolnoaa
