/- Package journal: Frame. -/
import Derived.Test.YtpehnggglolnoaaWireL
import Derived.Test.YtpehnggglolnoaaHash
namespace Go.Proofs.Ytpehnggglolnoaa
open Go.RowKit

/-- The core of a record, its frame. -/
def coreM (n : Int) (b : List UInt8) : List UInt8 := zvar n ++ rawW b
def frameL : List UInt8 := [102, 114, 97, 109, 101]
def frameM (n : Int) (b : List UInt8) : List UInt8 := rawW (coreM n b) ++ uvar (bytesB frameL (coreM n b)).toNat

theorem hashF_any (v : Value) (bs : List UInt8) (w : World) (hv : Rv w v bs.length (bs.map vB)) (hl : bs.length ≤ 1099511627776) (x : BitVec 64) (hx : x = bytesB frameL bs) :
    Calls Try.prog 40 #[.string ⟨#[102, 114, 97, 109, 101]⟩, v] w (RetU w x) := by
  have h := hbytes_any ⟨#[102, 114, 97, 109, 101]⟩ v bs w hv (show (5 : Nat) ≤ 1099511627776 by omega) hl
  rw [show (⟨#[102, 114, 97, 109, 101]⟩ : ByteArray).data.toList = frameL from rfl, ← hx] at h
  exact h

/-- What steps of a Writer that was empty leave. -/
theorem Rv.wnil {w w' : World} {b : Nat} {v' u : Value} {n : Nat} {us : List Value} (h : Rv w u n us) (hs : WStep w w' b (.slice none 0 0) v') (hu : u.ownBlock ≠ some b) : Rv w' u n us := by
  obtain ⟨ao, cap, rfl, h2, h3, h4, h5⟩ := h
  refine ⟨ao, cap, rfl, h2, h3, h4, ?_⟩
  rcases h5 with h5 | ⟨g, off, rfl, h5⟩
  · exact .inl h5
  · refine .inr ⟨g, off, rfl, fun i u hi => ?_⟩
    have hc := h5 i u hi
    have hlt := World.block_lt_of_cell? w _ hc
    have hne : g ≠ b := fun e => hu (by rw [e]; rfl)
    unfold World.cell? at hc ⊢
    rw [hs.block g hlt hne (by simp [Value.ownBlock])]
    exact hc
theorem Wr.wnil {w w' : World} {b c : Nat} {v' : Value} (h : Wr w c (.slice none 0 0) []) (hs : WStep w w' b (.slice none 0 0) v') (hc : c ≠ b) : Wr w' c (.slice none 0 0) [] :=
  ⟨(hs.block c h.1.lt hc (by simp [Value.ownBlock])).trans h.1, World.ownsRow_nil _ _ _ _⟩

set_option maxRecDepth 20000 in
set_option maxHeartbeats 4000000 in
theorem frame_any (v : Value) (b : List UInt8) (n : Int) (w : World) (hv : Rv w v b.length (b.map vB)) (hl : b.length ≤ 1000000000) (hn : -9223372036854775808 ≤ n ∧ n ≤ 9223372036854775807) :
    Calls Try.prog 26 #[.int .i64 n, v] w (RetMade w 5 ((frameM n b).map vB)) := by
  obtain ⟨ao, cap, rfl, hcap, _⟩ := hv.opened
  have HN := Lib.hid hn
  clear hn
  have hzl : (zvar n).length ≤ 10 := uvar_len _
  have hul := uvar_len b.length
  have hcl : (coreM n b).length ≤ b.length + 20 := by rw [coreM, rawW]; simp only [List.length_append]; omega
  have hcm : zvar n ++ rawW b = coreM n b := rfl
  have hfm : frameM n b = rawW (coreM n b) ++ uvar (bytesB frameL (coreM n b)).toNat := rfl
  rw [hfm]
  clear hfm
  generalize coreM n b = cm at *
  have HCM := Lib.hid hcm
  clear hcm
  go_enter Try.func26, Try.ntmps26
  go_wp2_with fail
  have A1 := (Below.refl _ w).alloc (Nat.le_refl _) (.cells #[.slice none 0 0] 70)
  have A2 := A1.alloc A1.size (.cells #[.slice none 0 0] 70)
  have K1 := (Wr.new w).later ((Below.refl _ _).alloc (Nat.le_refl _) (.cells #[.slice none 0 0] 70))
  have K2 := Wr.new (w.alloc (.cells #[.slice none 0 0] 70))
  have hs2 : (w.alloc (.cells #[.slice none 0 0] 70)).heap.size = w.heap.size + 1 := by simp
  rw [hs2] at K2
  have hb2 : w.heap.size + 1 < ((w.alloc (.cells #[.slice none 0 0] 70)).alloc (.cells #[.slice none 0 0] 70)).heap.size := by simp
  refine (wint_any _ _ _ n _ K1 HN.out.1 HN.out.2 (by decide)).mono ?_
  rintro e w1 ⟨v1, rfl, W1, S1⟩
  have C1 := S1.bel K1 A2 (Nat.le_refl _)
  rw [List.nil_append] at W1
  go_wp2_with fail
  refine (wraw_any _ _ _ _ b _ W1 (hv.below C1) (fun w' v' S => hv.below (S.bel W1 C1 (Nat.le_refl _))) (by omega)).mono ?_
  rintro e w2 ⟨v2, rfl, W2, S2⟩
  have C2 := S2.bel W1 C1 (Nat.le_refl _)
  have S12 := S1.trans S2
  have K2 := K2.wnil S12 (by omega)
  have hsz2 := S12.size
  rw [HCM.out] at W2
  clear S1 S2 S12 W1 C1 A1 A2 K1 HCM
  go_wp2_with fail
  refine (wdone_any _ _ _ _ W2 (by omega)).mono ?_
  rintro e w3 ⟨d3, rfl, M3⟩
  have C3 := bel C2 M3.2
  have K3 := K2.later M3.2
  have R3 := M3.rv
  rw [List.length_map] at R3
  have hne : d3.ownBlock ≠ some (w.heap.size + 1) := fun e => by have := (M3.1.lt _ e).1; omega
  obtain ⟨ad, cd, ed, _, _⟩ := R3.opened
  subst ed
  clear M3 C2 W2 K2
  go_wp2_with fail
  refine (wraw_any _ _ _ _ cm _ K3 R3 (fun w' v' S => R3.wnil S hne) (by simp; omega)).mono ?_
  rintro e w4 ⟨v4, rfl, W4, S4⟩
  have C4 := S4.bel K3 C3 (by omega)
  have R4 := R3.wnil S4 hne
  rw [List.nil_append] at W4
  have hF := fun w1 h => hashF_any (.slice ad cm.length cd) cm w1 h (by omega) _ rfl
  have hru : (rawW cm).length ≤ cm.length + 10 := by have := uvar_len cm.length; rw [rawW, List.length_append]; omega
  generalize bytesB frameL cm = x at *
  have hx := x.isLt
  generalize hR : rawW cm = rc at *
  clear S4 K3 C3 R3 hR
  go_wp2_with fail
  refine (hF _ R4).mono ?_
  rintro e w5 ⟨rfl, C5⟩
  have W5 := W4.later C5
  have D5 := bel C4 C5
  clear hF W4 C4 R4 C5
  go_wp2_with fail
  refine (wuint_any _ _ _ x.toNat _ W5 (by omega) (by omega)).mono ?_
  rintro e w6 ⟨v6, rfl, W6, S6⟩
  have D6 := S6.bel W5 D5 (by omega)
  have hul6 := uvar_len x.toNat
  clear S6 W5 D5
  go_wp2_with fail
  refine (wdone_any _ _ _ _ W6 (by rw [List.length_append]; omega)).mono ?_
  rintro e w7 ⟨d7, rfl, M7⟩
  go_wp2_with fail
  go_ret
  exact ⟨_, rfl, own_base M7.1 D6.size, bel D6 M7.2⟩
end Go.Proofs.Ytpehnggglolnoaa
