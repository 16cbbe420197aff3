/- The model of package journal: Core, Frame. -/
import Derived.Test.YtpehnggglolnoaaGreatJrnA
import Derived.Test.YtpehnggglolnoaaGreatRefW
import Derived.Test.YtpehnggglolnoaaGreatRefS
namespace Go.Proofs.YtpehnggglolnoaaGreat
open Go.RowKit

set_option maxHeartbeats 1000000 in
theorem rcore_any (v : Value) (b : List UInt8) (n : Int) (w : World) (hv : Rv w v b.length (b.map vB)) (hl : b.length ≤ 1000000000) (hn : -9223372036854775808 ≤ n ∧ n ≤ 9223372036854775807) :
    Calls Tryz.prog 52 #[.int .i64 n, v] w (RetMade w 5 ((coreM n b).map vB)) := by
  obtain ⟨ao, cap, rfl, hcap, _⟩ := hv.opened
  have HN := Lib.hid hn
  clear hn
  have hzl : (zvar n).length ≤ 10 := uvar_len _
  have hul := uvar_len b.length
  have hrl : (rawW b).length ≤ b.length + 10 := by rw [rawW, List.length_append]; omega
  have hcm : coreM n b = zvar n ++ rawW b := rfl
  rw [hcm]
  clear hcm
  go_enter Tryz.func52, Tryz.ntmps52
  go_wp2_with fail
  refine (eint_any n w HN.out.1 HN.out.2).mono ?_
  rintro e w1 ⟨v1, rfl, M1⟩
  have B1 := M1.2
  have O1 := M1.1
  rw [List.length_map] at O1
  clear M1
  go_wp2_with fail
  refine (eraw_any _ b w1 (hv.below B1) (by omega)).mono ?_
  rintro e w2 ⟨v2, rfl, M2⟩
  have B2 := bel B1 M2.2
  have O1 := own_below O1 M2.2
  have R2 := M2.rv
  rw [List.length_map] at R2
  clear M2 B1
  obtain ⟨k1, a1, c1, rfl⟩ := own_shape O1
  go_wp2_with (at_builtin; refine wpList_app _ rfl _ _ rfl Tryz.elB w.heap.size (.slice a1 k1 c1) (zvar n).length _ rfl O1 _ (rawW b).length _ rfl R2 (by simp) (ones_B _) (by omega) B2.size ?_; intro v3 w3 O3 hg3 _)
  go_ret
  exact retMade O3 (by rw [List.map_append]) (B2.grown hg3 B2.size (fun g e => (O1.lt g e).1))

theorem rhashF_any (v : Value) (bs : List UInt8) (w : World) (hv : Rv w v bs.length (bs.map vB)) (hl : bs.length ≤ 1099511627776) (x : BitVec 64) (hx : x = bytesB frameL bs) :
    Calls Tryz.prog 55 #[.string ⟨#[102, 114, 97, 109, 101]⟩, v] w (RetU w x) := by
  have h := rbytes_any ⟨#[102, 114, 97, 109, 101]⟩ v bs w hv (show (5 : Nat) ≤ 1099511627776 by omega) hl
  rw [show (⟨#[102, 114, 97, 109, 101]⟩ : ByteArray).data.toList = frameL from rfl, ← hx] at h
  exact h

set_option maxHeartbeats 1000000 in
theorem rframe_any (v : Value) (b : List UInt8) (n : Int) (w : World) (hv : Rv w v b.length (b.map vB)) (hl : b.length ≤ 1000000000) (hn : -9223372036854775808 ≤ n ∧ n ≤ 9223372036854775807) :
    Calls Tryz.prog 38 #[.int .i64 n, v] w (RetMade w 5 ((frameM n b).map vB)) := by
  have hc := rcore_any v b n w hv hl hn
  obtain ⟨ao, cap, rfl, hcap, _⟩ := hv.opened
  have hzl : (zvar n).length ≤ 10 := uvar_len _
  have hul := uvar_len b.length
  have hcl : (coreM n b).length ≤ b.length + 20 := by rw [coreM, rawW]; simp only [List.length_append]; omega
  have hfm : frameM n b = rawW (coreM n b) ++ uvar (bytesB frameL (coreM n b)).toNat := rfl
  rw [hfm]
  clear hfm hn
  generalize coreM n b = cm at *
  have hF := fun v w1 h => rhashF_any v cm w1 h (by omega) _ rfl
  have hru : (rawW cm).length ≤ cm.length + 10 := by have := uvar_len cm.length; rw [rawW, List.length_append]; omega
  generalize bytesB frameL cm = x at *
  have hx := x.isLt
  have hux := uvar_len x.toNat
  have HF := Lib.hid hF
  clear hF
  go_enter Tryz.func38, Tryz.ntmps38
  go_wp2_with fail
  refine hc.mono ?_
  rintro e w1 ⟨v1, rfl, M1⟩
  have B1 := M1.2
  have R1 := M1.rv
  rw [List.length_map] at R1
  obtain ⟨a1, c1, e1, _, _⟩ := R1.opened
  subst e1
  clear M1 hc
  go_wp2_with fail
  refine (eraw_any _ cm w1 R1 (by omega)).mono ?_
  rintro e w2 ⟨v2, rfl, M2⟩
  have B2 := bel B1 M2.2
  have R1 := R1.below M2.2
  have O2 := own_base M2.1 B1.size
  rw [List.length_map] at O2
  obtain ⟨k2, a2, c2, rfl⟩ := own_shape O2
  clear M2 B1
  go_wp2_with fail
  refine (HF.out _ _ R1).mono ?_
  rintro e w3 ⟨rfl, C3⟩
  have B3 := bel B2 C3
  have O2 := own_below O2 C3
  clear C3 B2 HF R1
  go_wp2_with fail
  refine (euint_any x.toNat _ (by omega)).mono ?_
  rintro e w4 ⟨v4, rfl, M4⟩
  have B4 := bel B3 M4.2
  have O2 := own_below O2 M4.2
  have R4 := M4.rv
  rw [List.length_map] at R4
  clear M4 B3
  go_wp2_with (at_builtin; refine wpList_app _ rfl _ _ rfl Tryz.elB w.heap.size (.slice a2 k2 c2) (rawW cm).length _ rfl O2 _ (uvar x.toNat).length _ rfl R4 (by simp) (ones_B _) (by omega) B4.size ?_; intro v5 w5 O5 hg5 _)
  go_ret
  exact retMade O5 (by rw [List.map_append]) (B4.grown hg5 B4.size (fun g e => (O2.lt g e).1))
end Go.Proofs.YtpehnggglolnoaaGreat
