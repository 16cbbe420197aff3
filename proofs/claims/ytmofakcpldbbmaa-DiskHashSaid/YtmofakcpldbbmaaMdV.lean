/- The law DiskHash. -/
import Derived.Test.YtmofakcpldbbmaaMdU
namespace Go.Proofs.Ytmofakcpldbbmaa
open Go.RowKit

theorem hash_f (v : Value) (bs : List UInt8) (w : World) (hv : Rv w v bs.length (bs.map vB)) (h8 : bs.length ≤ 8) (x : BitVec 64) (hx : bytesB [102] bs = x) :
    Calls Try.prog 32 #[.string ⟨#[102]⟩, v] w (RetU w x) := by
  have h := hbytes_any ⟨#[102]⟩ v bs w hv (show (1 : Nat) ≤ 1099511627776 by omega) (by omega)
  rw [show (⟨#[102]⟩ : ByteArray).data.toList = [102] from rfl, hx] at h
  exact h
theorem flipB_ne (b : List UInt8) {n : Nat} (h : n < 8 * b.length) : flipB b n ≠ b := by
  intro e
  obtain ⟨x, hx⟩ : ∃ x, b[n / 8]? = some x := ⟨_, List.getElem?_eq_getElem (by omega)⟩
  have h1 := flip_at b n x hx
  rw [e, hx] at h1
  exact maskB_ne x (n % 8) (Nat.mod_lt _ (by omega)) (Option.some.inj h1).symm
/-- The file as it is read. -/
theorem hash_read {D : Dk} (h : DOk D) (ho : Only D 0) {own : List UInt8} (hb : (D.fs 0).1 = own) (hne : own ≠ []) (h8 : own.length ≤ 8) (flip : Int) (hd : (D.fs 0).2 = 0 ∨ (D.fs 0).2 = own.length) :
    ((D.crash [8] flip).fs 0).1 = if (D.fs 0).2 = own.length ∨ flip < 0 then own else flipB own (flip.toNat % (8 * own.length)) := by
  have hp := List.length_pos_iff.2 hne
  rcases hd with hd | hd
  · have ht : keptN [8] 0 (own.length - 0) = own.length := by
      show min (8 : Int).toNat (own.length - 0) = own.length
      have : (8 : Int).toNat = 8 := rfl
      omega
    rw [crash_one h ho (by decide) hb hd [8] ht flip, hd, Nat.zero_add, List.take_of_length_le (Nat.le_refl _), Nat.mul_zero, Nat.zero_add]
    by_cases hf : flip < 0
    · rw [if_neg (by omega), if_pos (.inr hf)]
    · rw [if_pos (by omega), if_neg (by omega)]
  · have ht : keptN [8] 0 (own.length - own.length) = 0 := by
      have := keptN_le [8] 0 (own.length - own.length)
      omega
    rw [crash_one h ho (by decide) hb hd [8] ht flip, if_neg (by omega), if_pos (.inl hd), Nat.add_zero, List.take_of_length_le (Nat.le_refl _)]
set_option maxRecDepth 20000 in
set_option maxHeartbeats 4000000 in
theorem law_DiskHash (bv : Value) (b : List UInt8) (flip : Int) (sy : Bool) (w : World) (hb : Rv w bv b.length (b.map vB)) (hf : flip ≤ 9223372036854775807) :
    Calls Try.prog 9 #[bv, .int .i64 flip, .bool sy] w fun e w' => e = .returned (.bool true) ∧ Below w.heap.size w w' := by
  obtain ⟨ab, cb, rfl, _, _⟩ := hb.opened
  go_enter Try.func9, Try.ntmps9
  go_wp2_with fail
  refine (dnew w 100 (by decide) (by decide)).mono ?_
  rintro e w1 ⟨p, X, rfl, D1, hX, B1⟩
  go_wp2_with fail
  refine (few_any _ b 7 (by decide) w1 (hb.below B1)).mono ?_
  rintro e w2 ⟨v2, rfl, M2⟩
  obtain ⟨fw, hfw⟩ : ∃ l, b.take 7 = l := ⟨_, rfl⟩
  rw [hfw] at M2
  have hfl : fw.length ≤ 7 := by rw [← hfw, List.length_take]; omega
  have O2 := M2.1
  rw [List.length_map] at O2
  have D2 := D1.later M2.2
  have B2 := bel B1 M2.2
  have hs1 := B1.size
  have hs2 := M2.2.size
  have hX1 := D1.xl
  obtain ⟨a2, c2, rfl⟩ := own_isSlice O2
  have hA := (Below.refl w2.heap.size w2).alloc (Nat.le_refl _) (.cells #[.int .u8 1] 5)
  clear M2 hfw D1 hb
  go_wp2_with (at_builtin; go_loud (refine wpList_app2 _ rfl _ _ rfl Try.elB w1.heap.size _ fw.length _ rfl (own_below O2 hA) (.slice (some ⟨w2.heap.size, 0, none⟩) 1 1) 1 [vB 1] rfl (Rv.one _ _ _) rfl (ones1 _ rfl) (by omega) (by simp; omega) ?_; intro v5 w5 O5 g5 s5; refine later ?_))
  refine Later.in ?_
  obtain ⟨own, how⟩ : ∃ o, fw ++ [1] = o := ⟨_, rfl⟩
  have hown8 : own.length ≤ 8 := by rw [← how, List.length_append, List.length_singleton]; omega
  have hownp : own ≠ [] := fun e => by rw [e] at how; simp at how
  have O5 : w5.ownsRow w1.heap.size 5 1 v5 own.length (own.map vB) := by rw [← how, List.length_append, List.map_append]; exact O5
  have B5 := (B2.alloc (by omega) (.cells #[.int .u8 1] 5)).grown g5 (by simp; omega) (fun g hg => by have := (O2.lt g hg).1; omega)
  have D5 : DAt w5 p X (newD 100) := by
    obtain ⟨mb, F, ks, h⟩ := D2
    exact ⟨mb, F, ks, (h.later hA).kept g5.size (fun x hx => g5.block x (by have := (h.later hA).xl x hx; omega) (fun e => by have := (O2.lt x e.symm).1; have := hX1 x hx; omega))⟩
  have oX : Off v5 X := Off.ge O5 hX1
  clear D2 B2 hA O2 g5 s5 how hs1 hs2 hX1
  obtain ⟨a5, c5, rfl⟩ := own_isSlice O5
  obtain ⟨n, hn⟩ : ∃ n, own.length = n := ⟨_, rfl⟩
  have HN := Bx.mk hn
  have HOP := Bx.mk hownp
  rw [hn] at hown8 O5 oX ⊢
  clear hn hownp
  have hap := newD_ok 100 0 own (by decide) (by rw [HN.out]; omega)
  have hfs0 : ((newD 100).put 0 own 0).fs 0 = (own, 0) := by rw [put_fs0, if_neg HOP.out]
  have honly : Only ((newD 100).put 0 own 0) 0 := fun j hj => by rw [put_fs1 _ _ _ hj]; rfl
  go_wp2_with fail
  refine (dappend w5 0 _ own D5 (by rw [HN.out]; exact Rv.of_own O5) oX (by rw [HN.out]; omega)).mono ?_
  rw [hap]
  rintro e w6 ⟨rfl, X6, D6, S6⟩
  replace D6 : DAt w6 p X6 ((newD 100).put 0 own 0) := D6
  have O6 := own_step O5 S6 oX
  have o6 := oX.step S6 O5
  have B6 := B5.trans (S6.toBelow B5.size hX)
  have l6 := S6.ge B5.size hX
  have hsync : ((newD 100).put 0 own 0).sync = (0, ((newD 100).put 0 own 0).harden) := rfl
  obtain ⟨E, hE⟩ : ∃ E, (newD 100).put 0 own 0 = E := ⟨_, rfl⟩
  rw [hE] at D6 hfs0 honly hsync
  have HFS := Bx.mk hfs0
  have HON := Bx.mk honly
  have HSY := Bx.mk hsync
  clear D5 O5 oX B5 S6 hX hap hE hfs0 honly hsync
  go_upto_if 29 with fail
  go_cut [] from 30 to 31 (fun wx => ∃ F, DAt wx p X6 F ∧ (F.fs 0).1 = own ∧ (F.fs 0).2 = (if sy then n else 0) ∧ Only F 0 ∧ wx.ownsRow w1.heap.size 5 1 (.slice a5 n c5) n (own.map vB) ∧ Below w.heap.size w wx)
  case first =>
    cases sy
    · go_wp2_with fail
      go_meet
      exact ⟨E, D6, by rw [HFS.out], by rw [HFS.out]; rfl, HON.out, O6, B6⟩
    · go_wp2_with fail
      refine (dsync w6 D6).mono ?_
      rw [HSY.out]
      rintro e w7 ⟨rfl, D7, S7⟩
      have O7 := own_step O6 S7 o6
      have B7 := B6.trans (S7.toBelow B6.size l6)
      clear D6 O6 B6 S7
      go_wp2_with fail
      go_meet
      exact ⟨E.harden, D7, by show (E.fs 0).1 = own; rw [HFS.out], by show (E.fs 0).1.length = _; rw [HFS.out, HN.out]; rfl, fun j hj => HON.out j hj, O7, B7⟩
  case rest =>
  rename World => w7
  obtain ⟨F, D7, hF1, hF2, hF3, O7, B7⟩ := hcut
  clear D6 O6 B6 HFS HON HSY
  have hokF := D7.ok
  have hrd := hash_read hokF hF3 hF1 HOP.out (by rw [HN.out]; exact hown8) flip (by rw [hF2, HN.out]; cases sy <;> simp)
  rw [hF2, HN.out] at hrd
  have hn0 : 0 < n := by rw [← HN.out]; exact List.length_pos_iff.2 HOP.out
  have hro : (F.crash [8] flip).off = false := rfl
  obtain ⟨G, hG⟩ : ∃ G, F.crash [8] flip = G := ⟨_, rfl⟩
  have HG := Bx.mk hG
  rw [hG] at hrd hro
  have hread := read_on G 0 (by decide) hro
  obtain ⟨gb, hgb⟩ : ∃ g, (G.fs 0).1 = g := ⟨_, rfl⟩
  rw [hgb] at hread hrd
  have hlen : gb.length = n := by
    rw [hrd]
    by_cases hc : (if sy = true then n else 0) = n ∨ flip < 0
    · rw [if_pos hc]; exact HN.out
    · rw [if_neg hc, flipB_len]; exact HN.out
  have HRD := Bx.mk hread
  have HGB := Bx.mk hrd
  have HGL := Bx.mk hlen
  clear hF1 hF2 hF3 hokF hrd hro hG hread hgb hlen
  go_wp2_with fail
  have BA := (Below.refl w7.heap.size w7).alloc (Nat.le_refl _) (.cells #[.int .i64 8] 3)
  refine (dcrash _ [8] _ flip hf (by decide) (D7.later BA) (Rv.lit w7 [.int .i64 8] 3 1 (by decide)) (off_new D7.xl 1 1)).mono ?_
  rw [HG.out]
  rintro e w8 ⟨rfl, D8, S8⟩
  have o7 : Off (.slice a5 n c5) X6 := o6
  have O8 := own_step (own_below O7 BA) S8 o7
  have B8 := B7.trans ((BA.mono B7.size).trans (S8.toBelow (by rw [World.size_alloc]; have := B7.size; omega) l6))
  clear D7 O7 B7 BA S8 o6 o7
  go_wp2_with fail
  refine (dread w8 0 D8).mono ?_
  rw [HRD.out]
  rintro e w9 ⟨v9, rfl, O9, B9⟩
  replace O9 : w9.ownsRow w8.heap.size 5 1 v9 gb.length (gb.map vB) := O9
  rw [HGL.out] at O9
  obtain ⟨a9, c9, rfl⟩ := own_isSlice O9
  have P9 := own_below O8 B9
  have B9' := bel B8 B9
  clear D8 O8 B8 B9 HRD
  obtain ⟨x1, hx1⟩ : ∃ y, bytesB [102] gb = y := ⟨_, rfl⟩
  obtain ⟨x2, hx2⟩ : ∃ y, bytesB [102] own = y := ⟨_, rfl⟩
  have HC1 := Bx.mk (fun W h => hash_f (.slice a9 n c9) gb W h (by rw [HGL.out]; exact hown8) x1 hx1)
  have HC2 := Bx.mk (fun W h => hash_f (.slice a5 n c5) own W h (by rw [HN.out]; exact hown8) x2 hx2)
  have hcase : (sy = true ∨ flip < 0) ∧ x1 = x2 ∨ ¬ (sy = true ∨ flip < 0) ∧ x1 ≠ x2 := by
    have h1 := HGB.out
    have e : ((if sy = true then n else 0) = n ∨ flip < 0) ↔ (sy = true ∨ flip < 0) := by
      cases sy
      · simp; omega
      · simp
    by_cases hc : sy = true ∨ flip < 0
    · rw [if_pos (e.2 hc)] at h1
      exact .inl ⟨hc, by rw [← hx1, ← hx2, h1]⟩
    · rw [if_neg (fun h => hc (e.1 h))] at h1
      refine .inr ⟨hc, ?_⟩
      rw [← hx1, ← hx2]
      have hm := Nat.mod_lt flip.toNat (show 0 < 8 * n by omega)
      refine bytesB_ne (by rw [HGL.out, HN.out]) (by rw [HGL.out]; exact hown8) ?_
      rw [h1]
      exact flipB_ne own (by rw [HN.out]; exact hm)
  clear hx1 hx2 HGB HG
  go_wp2_with fail
  refine (HC1.out w9 (by rw [HGL.out]; exact Rv.of_own O9)).mono ?_
  rintro e w10 ⟨rfl, B10⟩
  have P10 := own_below P9 B10
  have B10' := bel B9' B10
  clear P9 B9' B10 O9
  go_wp2_with fail
  refine (HC2.out w10 (by rw [HN.out]; exact Rv.of_own P10)).mono ?_
  rintro e w11 ⟨rfl, B11⟩
  have B11' := bel B10' B11
  clear P10 B10' B11 HC1 HC2
  rcases hcase with ⟨hc, rfl⟩ | ⟨hc, hne⟩
  · cases sy
    · have hf0 : flip < 0 := by simpa using hc
      clear hc
      go_wp2_with fail
      refine (lives30_any _).mono ?_
      rintro e w12 ⟨rfl, B12⟩
      have B12' := bel B11' B12
      go_wp2_with fail
      go_ret
      exact ⟨rfl, B12'⟩
    · clear hc
      go_wp2_with fail
      refine (lives30_any _).mono ?_
      rintro e w12 ⟨rfl, B12⟩
      have B12' := bel B11' B12
      go_wp2_with fail
      go_ret
      exact ⟨rfl, B12'⟩
  · have hneb := toNat_ne hne
    cases sy
    · have hf0 : decide (flip < 0) = false := decide_eq_false (by simpa using hc)
      clear hc hne
      go_wp2_with fail
      refine (lives30_any _).mono ?_
      rintro e w12 ⟨rfl, B12⟩
      have B12' := bel B11' B12
      go_wp2_with fail
      go_ret
      exact ⟨rfl, B12'⟩
    · exact absurd (.inl rfl) hc
end Go.Proofs.Ytmofakcpldbbmaa
