/- The generators of the models of packages ast and edits: Text, Edit. -/
import Derived.Test.YtpehnggglolnoaaEdA
import Derived.Test.YtpehnggglolnoaaTxtJ
import Derived.Test.YtpehnggglolnoaaEdB
namespace Go.Proofs.Ytpehnggglolnoaa
open Go.RowKit

def tabT : List Int := [97, 97, 97, 98, 98, 99, 97, 98, 10, 32, 65, 200]
theorem tabT_ok (j : Nat) (hj : j < 12) : 0 ≤ tabT.getD j 0 ∧ tabT.getD j 0 ≤ 1000 := by
  have h : j = 0 ∨ j = 1 ∨ j = 2 ∨ j = 3 ∨ j = 4 ∨ j = 5 ∨ j = 6 ∨ j = 7 ∨ j = 8 ∨ j = 9 ∨ j = 10 ∨ j = 11 := by omega
  rcases h with rfl | rfl | rfl | rfl | rfl | rfl | rfl | rfl | rfl | rfl | rfl | rfl <;> decide
set_option maxHeartbeats 1000000 in
theorem pickE_any (al : Option Addr) (cl : Nat) (l : List Int) (i m : Nat) (w : World) (hv : Rv w (.slice al l.length cl) l.length (l.map (Value.int .i64))) (hx : ∀ x ∈ l, -9223372036854775808 ≤ x ∧ x ≤ 9223372036854775807) (hi : i < l.length) (hm : 1 ≤ m) (hm2 : m ≤ 1000) :
    Calls Try.prog 95 #[.slice al l.length cl, .int .i64 (i : Int), .int .i64 (m : Int)] w fun e w' => ∃ k : Nat, k < m ∧ e = .returned (.int .i64 (k : Int)) ∧ w = w' := by
  obtain ⟨b2, off2, ⟨_, he⟩, hcx⟩ := rvCell hv hi
  cases he
  have h64 := hx _ (List.getElem_mem hi)
  obtain ⟨x, hx2⟩ : ∃ x, l[i] = x := ⟨_, rfl⟩
  rw [hx2] at hcx h64
  have H64 := Bx.mk h64
  clear hx2 h64 hx
  go_enter Try.func95, Try.ntmps95
  go_wp2_with fail
  refine (around_nat x m hm H64.out.1 H64.out.2 (by omega) _).mono ?_
  rintro e w1 ⟨k, hk, _, rfl, rfl⟩
  go_wp2_with fail
  go_ret
  exact ⟨k, hk, rfl, rfl⟩
set_option maxRecDepth 20000 in
set_option maxHeartbeats 2000000 in
theorem text5_any (al : Option Addr) (cl : Nat) (l : List Int) (n : Nat) (hn : n ≤ 1000) (w : World) (hv : Rv w (.slice al l.length cl) l.length (l.map (Value.int .i64))) (hx : ∀ x ∈ l, -9223372036854775808 ≤ x ∧ x ≤ 9223372036854775807) :
    Calls Try.prog 78 #[.slice al l.length cl, .int .i64 (n : Int)] w fun e w' => ∃ (v : Value) (ys : List Int), e = .returned v ∧ w'.ownsRow w.heap.size 3 1 v ys.length (ys.map (Value.int .i64)) ∧ ys.length ≤ n ∧ (∀ y ∈ ys, 0 ≤ y ∧ y ≤ 1000) ∧ Below w.heap.size w w' := by
  have HX := Bx.mk hx
  clear hx
  go_enter Try.func78, Try.ntmps78
  go_wp2_with fail
  go_loopw [5, 6] (fun ov iv wr => ∃ (i : Nat) (ys : List Int), iv = .int .i64 (i : Int) ∧ i ≤ l.length ∧ i ≤ n ∧ Bx (ys.length = i) ∧ Bx (∀ y ∈ ys, 0 ≤ y ∧ y ≤ 1000) ∧ wr.ownsRow w.heap.size 3 1 ov ys.length (ys.map (Value.int .i64)) ∧ Below w.heap.size w wr) (fun _ iv _ => n - (intOf iv).toNat)
  case atStart => exact ⟨0, [], rfl, Nat.zero_le _, Nat.zero_le _, ⟨rfl⟩, ⟨fun y h => by cases h⟩, World.ownsRow_nil _ _ _ _, Below.refl _ _⟩
  case round =>
    obtain ⟨i, ys, rfl, hi, hin, HL, HY, hown, hB⟩ := hrel
    have hsz := hB.size
    have hyl : ys.length ≤ 1000 := by have := HL.out; omega
    by_cases hlt : i < l.length
    · by_cases hlm : i < n
      · have BT := (Below.refl wr.heap.size wr).alloc (Nat.le_refl _) (.cells (tabT.map (Value.int .i64)).toArray 3)
        have RT := (hv.below hB).below BT
        have cT := fun j hj => tab_cell wr tabT 3 j hj
        have B1 := hB.alloc hsz (.cells (tabT.map (Value.int .i64)).toArray 3)
        have O1 := own_below hown BT
        change Below _ _ (wr.alloc (.cells #[.int .i64 97, .int .i64 97, .int .i64 97, .int .i64 98, .int .i64 98, .int .i64 99, .int .i64 97, .int .i64 98, .int .i64 10, .int .i64 32, .int .i64 65, .int .i64 200] 3)) at B1
        change Rv (wr.alloc (.cells #[.int .i64 97, .int .i64 97, .int .i64 97, .int .i64 98, .int .i64 98, .int .i64 99, .int .i64 97, .int .i64 98, .int .i64 10, .int .i64 32, .int .i64 65, .int .i64 200] 3)) _ _ _ at RT
        change (wr.alloc (.cells #[.int .i64 97, .int .i64 97, .int .i64 97, .int .i64 98, .int .i64 98, .int .i64 99, .int .i64 97, .int .i64 98, .int .i64 10, .int .i64 32, .int .i64 65, .int .i64 200] 3)).ownsRow _ _ _ _ _ _ at O1
        have CT := Bx.mk cT
        clear cT BT
        go_wp2_with fail
        refine (pickE_any al cl l i 12 _ RT HX.out hlt (by omega) (by omega)).mono ?_
        rintro e w1 ⟨j, hj, rfl, rfl⟩
        have cj := CT.out j hj
        obtain ⟨t1, t2⟩ := tabT_ok j hj
        change (wr.alloc (.cells #[.int .i64 97, .int .i64 97, .int .i64 97, .int .i64 98, .int .i64 98, .int .i64 99, .int .i64 97, .int .i64 98, .int .i64 10, .int .i64 32, .int .i64 65, .int .i64 200] 3)).cell? _ = _ at cj
        obtain ⟨x, hx⟩ : ∃ x, tabT.getD j 0 = x := ⟨_, rfl⟩
        rw [hx] at cj t1 t2
        obtain ⟨G, hG⟩ : ∃ G, wr.heap.size = G := ⟨_, rfl⟩
        rw [hG] at cj ⊢
        generalize wr.alloc (.cells #[.int .i64 97, .int .i64 97, .int .i64 97, .int .i64 98, .int .i64 98, .int .i64 99, .int .i64 97, .int .i64 98, .int .i64 10, .int .i64 32, .int .i64 65, .int .i64 200] 3) = w1 at *
        clear hx RT hown hB hsz hG
        go_wp2_with (at_builtin; refine wpList_app _ rfl _ _ rfl Try.elI w.heap.size u5 ys.length _ rfl (own_below O1 ((Below.refl _ w1).alloc (Nat.le_refl _) _)) (.slice (some ⟨w1.heap.size, 0, none⟩) 1 1) 1 [.int .i64 x] rfl (Rv.one _ _ _) rfl (ones1 _ rfl) (by omega) (by have := B1.size; simp; omega) ?_; intro v5 w5 hown5 hg5 _)
        go_roundw
        case rel => exact ⟨i + 1, ys ++ [x], by go_num, by omega, by omega, ⟨by have := HL.out; simp; omega⟩, ⟨fun y hy => by
          rcases List.mem_append.1 hy with hy | hy
          · exact HY.out y hy
          · rw [List.mem_singleton.1 hy]; exact ⟨t1, t2⟩⟩, by simpa using hown5, (B1.alloc B1.size _).grown hg5 (by have := B1.size; simp; omega) (fun g e => (O1.lt g e).1)⟩
        case measure => simp [intOf]; omega
      · obtain rfl : i = n := by omega
        go_wp2_with fail
        go_ret
        exact ⟨_, ys, rfl, hown, by have := HL.out; omega, HY.out, hB⟩
    · obtain rfl : i = l.length := by omega
      go_wp2_with fail
      all_goals
        go_ret
        exact ⟨_, ys, rfl, hown, by have := HL.out; omega, HY.out, hB⟩
/-- What the generator of edits makes. -/
def EditPost (w : World) (size : Nat) (en : Ending) (w' : World) : Prop :=
  ∃ p : EdV, en = .returned p.val ∧ InT size p.e ∧ FewE p.e ∧ w'.ownsRow w.heap.size 3 1 p.ins p.e.s.length (p.e.s.map (Value.int .i64)) ∧ Below w.heap.size w w'
set_option maxRecDepth 20000 in
set_option maxHeartbeats 2000000 in
theorem edit27_any (size : Nat) (hs : size ≤ 1000) (n m : Int) (hn : -9223372036854775808 ≤ n ∧ n ≤ 9223372036854775807) (hm : -9223372036854775808 ≤ m ∧ m ≤ 9223372036854775807) (w : World) :
    Calls Try.prog 50 #[.int .i64 (size : Int), .int .i64 n, .int .i64 m] w (EditPost w size) := by
  have HN := Bx.mk hn
  have HM := Bx.mk hm
  clear hn hm
  have Z0 := Box3.new w (.int .i64 0) (.int .i64 0) (.slice none 0 0)
  have B0 := (Below.refl w.heap.size w).alloc (Nat.le_refl _) (.cells #[.int .i64 0, .int .i64 0, .slice none 0 0] 45)
  go_enter Try.func50, Try.ntmps50
  go_wp2_with fail
  refine (around_nat n 1048576 (by omega) HN.out.1 HN.out.2 (by omega) _).mono ?_
  rintro e w1 ⟨k, hk, _, rfl, rfl⟩
  go_wp2_with fail
  refine (around_nat m 1048576 (by omega) HM.out.1 HM.out.2 (by omega) _).mono ?_
  rintro e w1 ⟨j, hj, _, rfl, rfl⟩
  by_cases hk7 : ((k : Int) % 7 == 0) = true
  case' pos =>
    go_upto_region 7 with fail
    obtain ⟨A, hA⟩ : ∃ A : Int, (k : Int) % ((size : Int) + 1) = A := ⟨_, rfl⟩
    have hA0 : 0 ≤ A := hA ▸ Int.emod_nonneg _ (by omega)
    have hA1 : A ≤ size := by have := Int.emod_lt_of_pos (k : Int) (show (0 : Int) < (size : Int) + 1 by omega); omega
    rw [hA]
    have hw : wrap64 ((size : Int) - A) = (size : Int) - A := by unfold wrap64; omega
    rw [hw]
    clear hA hw
    obtain ⟨V, hV⟩ : ∃ V : Int, (if (k : Int) / 64 % 4 < (size : Int) - A then (k : Int) / 64 % 4 else (size : Int) - A) = V := ⟨_, rfl⟩
    rw [hV]
    clear hV
    obtain ⟨X, hX⟩ : ∃ X : Int, (size : Int) - A = X := ⟨_, rfl⟩
    rw [hX]
    have hX0 : 0 ≤ X := by omega
    have hX1 : A + X ≤ size := by omega
  case' neg =>
    have hk8 : ((k : Int) % 7 == 0) = false := by simpa using hk7
    go_upto_region 7 with fail
    obtain ⟨A, hA⟩ : ∃ A : Int, (k : Int) % ((size : Int) + 1) = A := ⟨_, rfl⟩
    have hA0 : 0 ≤ A := hA ▸ Int.emod_nonneg _ (by omega)
    have hA1 : A ≤ size := by have := Int.emod_lt_of_pos (k : Int) (show (0 : Int) < (size : Int) + 1 by omega); omega
    rw [hA]
    have hw : wrap64 ((size : Int) - A) = (size : Int) - A := by unfold wrap64; omega
    rw [hw]
    clear hA hw
    obtain ⟨X, hX⟩ : ∃ X : Int, (if (k : Int) / 64 % 4 < (size : Int) - A then (k : Int) / 64 % 4 else (size : Int) - A) = X := ⟨_, rfl⟩
    rw [hX]
    have hX0 : 0 ≤ X := by rw [← hX]; split <;> omega
    have hX1 : A + X ≤ size := by rw [← hX]; split <;> omega
    clear hk8
  all_goals
    clear hX hk7
    have U0 := Box3.new (w.alloc (.cells #[.int .i64 0, .int .i64 0, .slice none 0 0] 45)) (.int .i64 A) (.int .i64 X) (.slice none 0 0)
    have Z1 := Z0.alloc (.cells #[.int .i64 A, .int .i64 X, .slice none 0 0] 45)
    have B1 := B0.alloc B0.size (.cells #[.int .i64 A, .int .i64 X, .slice none 0 0] 45)
    rw [World.size_alloc] at U0
    generalize (w.alloc (.cells #[.int .i64 0, .int .i64 0, .slice none 0 0] 45)).alloc (.cells #[.int .i64 A, .int .i64 X, .slice none 0 0] 45) = w1 at U0 Z1 B1 ⊢
    obtain ⟨q, hq⟩ : ∃ q : Nat, (j : Int) % 4 = (q : Int) := ⟨j % 4, rfl⟩
    have hq3 : q ≤ 3 := by omega
    clear Z0 B0
    go_wp2_with fail
    have BL := (Below.refl w1.heap.size w1).alloc (Nat.le_refl _) (.cells #[.int .i64 (j : Int), .int .i64 ((j : Int) / 12), .int .i64 ((j : Int) / 144)] 3)
    refine (text5_any _ _ [(j : Int), (j : Int) / 12, (j : Int) / 144] q (by omega) _ (Rv.lit w1 [.int .i64 (j : Int), .int .i64 ((j : Int) / 12), .int .i64 ((j : Int) / 144)] 3 3 (by decide)) (by intro x hx; simp only [List.mem_cons, List.not_mem_nil, or_false] at hx; rcases hx with rfl | rfl | rfl <;> omega)).mono ?_
    rintro e w2 ⟨v2, ys, rfl, O2, L2, Y2, B2⟩
    obtain ⟨k2, a2, c2, rfl⟩ := own_shape O2
    obtain rfl : k2 = ys.length := own_k O2
    have hs1 := B1.size
    have hU1 : w.heap.size + 1 < w1.heap.size := U0.lt
    have U2 := (U0.alloc (.cells #[.int .i64 (j : Int), .int .i64 ((j : Int) / 12), .int .i64 ((j : Int) / 144)] 3)).kept (B2.block _ (by rw [World.size_alloc]; omega))
    have Z2 := (Z1.alloc (.cells #[.int .i64 (j : Int), .int .i64 ((j : Int) / 12), .int .i64 ((j : Int) / 144)] 3)).kept (B2.block _ (by rw [World.size_alloc]; omega))
    have C2 := bel (B1.alloc hs1 _) B2
    have U3 := U2.s2 (.slice a2 ys.length c2)
    have Z3 := Z2.kept (w' := w2.setCell ⟨w.heap.size + 1, 2, none⟩ (.slice a2 ys.length c2)) (Below.heap_setCell _ _ _ _ (by show w.heap.size ≠ w.heap.size + 1; omega))
    have C3 := C2.setCell (p := ⟨w.heap.size + 1, 2, none⟩) (by show w.heap.size ≤ w.heap.size + 1; omega) (.slice a2 ys.length c2)
    have O3 := own_set O2 (b := w.heap.size + 1) (by rw [World.size_alloc]; omega) 2 (.slice a2 ys.length c2)
    have uf := U2.fr
    have uc := U2.k2
    have u0 := U3.k0
    have u1 := U3.k1
    have u2 := U3.k2
    have z0 := Z3.k0
    have z1 := Z3.k1
    have z2 := Z3.k2
    have zf := Z3.fr
    have z20 := Z2.k0
    have z21 := Z2.k1
    have z22 := Z2.k2
    have z2f := Z2.fr
    have u20 := U2.k0
    have u21 := U2.k1
    have hbs : w.heap.size < (w1.alloc (.cells #[.int .i64 (j : Int), .int .i64 ((j : Int) / 12), .int .i64 ((j : Int) / 144)] 3)).heap.size := by rw [World.size_alloc]; omega
    have PF : EditPost w size (.returned (.agg #[.int .i64 A, .int .i64 X, .slice a2 ys.length c2])) (threeV (w2.setCell ⟨w.heap.size + 1, 2, none⟩ (.slice a2 ys.length c2)) w.heap.size (.int .i64 A) (.int .i64 X) (.slice a2 ys.length c2)) :=
      ⟨⟨⟨A, X, ys⟩, a2, c2⟩, rfl, ⟨hA0, hX0, hX1⟩, ⟨by show ys.length ≤ 3; omega, Y2⟩, own_base (own_three O3 hbs _ _ _) (by omega), threeV_below C3 (Nat.le_refl _) _ _ _⟩
    have HPF := Bx.mk PF
    have HZ3 := Bx.mk Z3
    clear PF BL U0 Z1 B1 O2 L2 Y2 B2 hs1 hU1 U2 Z2 C2 U3 Z3 C3 O3 hbs hq
    go_wp2_with fail
    refine bodyPost_ret (results_edit1 rfl _ rfl (threeV_box HZ3.out _ _ _)) rfl ?_
    exact HPF.out
end Go.Proofs.Ytpehnggglolnoaa
