/- The law TextEncodes. -/
import Derived.Test.YtcknnlbfbjcjjaaDoorTxtS
import Derived.Test.YtcknnlbfbjcjjaaDoorTxtV
import Derived.Deep.QuietTactic
namespace Go.Proofs.YtcknnlbfbjcjjaaDoor
open Go.RowKit

/-- A block of slices: what each reads as. -/
def Tab {α : Type} (f : α → Value) (w : World) (b : Nat) (L : List (Value × List α)) : Prop := ∀ i (h : i < L.length), w.cell? ⟨b, i, none⟩ = some L[i].1 ∧ Rv w L[i].1 L[i].2.length (L[i].2.map f)
theorem Tab.below {α : Type} {f : α → Value} {w w' : World} {b : Nat} {L : List (Value × List α)} (h : Tab f w b L) (hb : Below w.heap.size w w') : Tab f w' b L := fun i hi =>
  ⟨(hb.cell (p := ⟨b, i, none⟩) (World.block_lt_of_cell? _ _ (h i hi).1)).trans (h i hi).1, (h i hi).2.below hb⟩
theorem Tab.new {α : Type} {f : α → Value} {w : World} (L : List (Value × List α)) (e : TypeId) (h : ∀ p ∈ L, Rv w p.1 p.2.length (p.2.map f)) : Tab f (w.alloc (.cells (L.map (·.1)).toArray e)) w.heap.size L := fun i hi => by
  refine ⟨?_, (h _ (List.getElem_mem hi)).below ((Below.refl _ w).alloc (Nat.le_refl _) _)⟩
  rw [World.cell?_alloc_new]
  simp [hi]
theorem textM_le (l : List Int) (most : Nat) (runes : Bool) : (textM l most runes).length ≤ most := by
  rw [textM, List.length_map, List.length_take]; omega

theorem own_kk3 {w : World} {a : Option Addr} {k c n : Nat} {us : List Value} (h : Rv w (.slice a k c) n us) : n = k := by
  obtain ⟨_, _, e, _⟩ := h
  cases e; rfl

set_option maxRecDepth 20000 in
set_option maxHeartbeats 4000000 in
theorem law_TextEncodes (u v : Value) (l m : List Int) (runes : Bool) (w : World) (hu : Rv w u l.length (l.map (Value.int .i64))) (hv : Rv w v m.length (m.map (Value.int .i64))) (hl : ∀ x ∈ l, -9223372036854775808 ≤ x ∧ x ≤ 9223372036854775807) (hF : FM w) :
    Calls Tryd.prog 7 #[u, v, .bool runes] w (RetTB w) := by
  have hw0 : 0 < w.heap.size := World.block_lt_of_cell? w _ (hF 0 (by omega))
  have HX := Lib.hid hl
  clear hl
  go_enter Tryd.func7, Tryd.ntmps7
  go_wp2_with fail
  refine (text_any u l 30 runes w hu HX.out (by omega)).mono ?_
  rintro e w1 ⟨v1, rfl, M1⟩
  have n1 := textM_le l 30 runes
  generalize textM l 30 runes = l1 at *
  have B1 := M1.2
  have R1 := M1.rv
  rw [List.length_map] at R1
  clear M1
  go_wp2_with fail
  refine (text_any u l 30 true w1 (hu.below B1) HX.out (by omega)).mono ?_
  rintro e w2 ⟨v2, rfl, M2⟩
  have n2 := textM_le l 30 true
  generalize textM l 30 true = l2 at *
  have B2 := bel B1 M2.2
  have R1 := R1.below M2.2
  have R2 := M2.rv
  rw [List.length_map] at R2
  clear M2 B1
  go_wp2_with fail
  refine (ints_some v m 12 (by omega) w2 (hv.below B2)).mono ?_
  rintro e w3 ⟨v3, l3, _, n3, rfl, M3, R3⟩
  have B3 := bel B2 M3.2
  have R1 := R1.below M3.2
  have R2 := R2.below M3.2
  clear M3 B2
  go_wp2_with fail
  refine (text_any u l 9 runes w3 (hu.below B3) HX.out (by omega)).mono ?_
  rintro e w4 ⟨v4, rfl, M4⟩
  have n4 := textM_le l 9 runes
  generalize textM l 9 runes = l4 at *
  have B4 := bel B3 M4.2
  have O4 := M4.1
  rw [List.length_map] at O4
  have C4 := M4.2
  clear M4
  go_wp2_with fail
  refine (ints_some v m 1 (by omega) w4 (hv.below B4)).mono ?_
  rintro e w5 ⟨v5, l5, _, n5, rfl, M5, R5⟩
  have C5 := bel C4 M5.2
  have O5 := own_below O4 M5.2
  clear M5 C4 O4 B4
  obtain ⟨k5, a5, c5, rfl⟩ := own_shape O5
  obtain ⟨x1, y1, e1, _, _⟩ := R1.opened
  obtain ⟨x2, y2, e2, _, _⟩ := R2.opened
  obtain ⟨x3, y3, e3, _, _⟩ := R3.opened
  subst e1
  subst e2
  subst e3
  go_wp2_with (at_builtin; refine wpList_app _ rfl _ _ rfl Tryd.elI w3.heap.size (.slice a5 k5 c5) l4.length _ rfl O5 _ l5.length _ rfl R5 (by simp) (ones_I _) (by omega) C5.size ?_; intro v6 w6 O6 hg6 _; obtain ⟨k6, x6, y6, rfl⟩ := own_shape O6)
  have C6 : Below w3.heap.size w3 w6 := C5.grown hg6 C5.size (fun g e => (O5.lt g e).1)
  have B6 := bel B3 C6
  have R1 := R1.below C6
  have R2 := R2.below C6
  have R3 := R3.below C6
  have R6 : Rv w6 (.slice x6 k6 y6) (l4 ++ l5).length ((l4 ++ l5).map (Value.int .i64)) := by
    have h := Rv.of_own O6
    rw [List.map_append, List.length_append]
    exact h
  have n6 : (l4 ++ l5).length ≤ 12 := by rw [List.length_append]; omega
  generalize l4 ++ l5 = l6 at *
  have e6 := own_kk3 R6
  subst e6
  clear hg6 O6 C6 O5 C5 R5 B3
  have T7 := Tab.new (f := Value.int .i64) (w := w6) [(Value.slice x1 l1.length y1, l1), (Value.slice x2 l2.length y2, l2), (Value.slice x3 l3.length y3, l3), (Value.slice x6 l6.length y6, l6)] 22 (by intro p hp; simp at hp; rcases hp with rfl | rfl | rfl | rfl <;> assumption)
  have hL : ∀ p ∈ [(Value.slice x1 l1.length y1, l1), (Value.slice x2 l2.length y2, l2), (Value.slice x3 l3.length y3, l3), (Value.slice x6 l6.length y6, l6)], p.2.length ≤ 30 := by intro p hp; simp at hp; rcases hp with rfl | rfl | rfl | rfl <;> simp only <;> omega
  have hLl : [(Value.slice x1 l1.length y1, l1), (Value.slice x2 l2.length y2, l2), (Value.slice x3 l3.length y3, l3), (Value.slice x6 l6.length y6, l6)].length = 4 := rfl
  simp only [List.map_cons, List.map_nil] at T7
  generalize [(Value.slice x1 l1.length y1, l1), (Value.slice x2 l2.length y2, l2), (Value.slice x3 l3.length y3, l3), (Value.slice x6 l6.length y6, l6)] = L at *
  have B7 := B6.alloc B6.size (.cells #[.slice x1 l1.length y1, .slice x2 l2.length y2, .slice x3 l3.length y3, .slice x6 l6.length y6] 22)
  have T7 : Tab (Value.int .i64) (w6.alloc (.cells #[.slice x1 l1.length y1, .slice x2 l2.length y2, .slice x3 l3.length y3, .slice x6 l6.length y6] 22)) w6.heap.size L := T7
  clear R1 R2 R3 R6 n1 n2 n3 n6 B6
  have HL := Lib.hid hL
  clear hL
  generalize w6.heap.size = b at *
  generalize (w6.alloc (.cells #[.slice x1 l1.length y1, .slice x2 l2.length y2, .slice x3 l3.length y3, .slice x6 l6.length y6] 22)) = W at *
  go_loopw [8] (fun iv wr => ∃ i : Nat, iv = .int .i64 (i : Int) ∧ i ≤ 4 ∧ Below W.heap.size W wr) (fun iv _ => 4 - (intOf iv).toNat)
  case atStart => exact ⟨0, rfl, by omega, Below.refl _ _⟩
  case round =>
    obtain ⟨i, rfl, hi, hB⟩ := hrel
    have hF8 := hF.below (bel B7 hB) hw0
    by_cases hlt : i < 4
    · obtain ⟨hc, hr⟩ := (T7.below hB) i (by omega)
      have hle := HL.out L[i] (List.getElem_mem (by omega))
      generalize L[i] = p at *
      obtain ⟨pv, pl⟩ := p
      simp only at hc hr hle
      obtain ⟨ap, cp, rfl, _, _⟩ := hr.opened
      clear T7
      go_wp2_with fail
      have he := fun w1 h1 h2 => encode_any (.slice ap pl.length cp) pl runes w1 h1 (by omega) h2
      have hre := fun w1 h1 => rencode_any (.slice ap pl.length cp) pl runes w1 h1 (by omega)
      have hva := fun w1 h1 => valid_any (.slice ap pl.length cp) pl runes w1 h1 (by omega)
      generalize valM pl runes = r at *
      generalize encR pl runes = us at *
      have HE := Lib.hid he
      have HRE := Lib.hid hre
      have HVA := Lib.hid hva
      clear he hre hva
      refine (HE.out _ hr hF8).mono ?_
      rintro e w8 ⟨v8, rfl, M8⟩
      have hc8 := (M8.2.cell (p := ⟨b, i, none⟩) (World.block_lt_of_cell? _ _ hc)).trans hc
      have r8 := hr.below M8.2
      have D8 := bel hB M8.2
      have Q8 := M8.rv
      rw [List.length_map] at Q8
      clear hc hr hB M8 hF8
      go_wp2_with fail
      refine (HRE.out _ r8).mono ?_
      rintro e w9 ⟨v9, rfl, M9⟩
      have hc9 := (M9.2.cell (p := ⟨b, i, none⟩) (World.block_lt_of_cell? _ _ hc8)).trans hc8
      have r9 := r8.below M9.2
      have D9 := bel D8 M9.2
      have Q9 := M9.rv
      have P8 := Q8.below M9.2
      rw [List.length_map] at Q9
      clear hc8 r8 D8 M9 Q8
      go_wp2_with fail
      refine (HVA.out _ r9).mono ?_
      rintro e w10 ⟨rfl, C10⟩
      have D10 := bel D9 C10
      have P10 := P8.below C10
      have Q10 := Q9.below C10
      clear hc9 r9 D9 C10 P8 Q9
      go_wp2_with fail
      refine (sameBytes_refl _ _ us _ P10 Q10).mono ?_
      rintro e w11 ⟨rfl, n11, h11⟩
      have D11 : Below W.heap.size W w11 := by rw [h11]; exact belD D10 _
      clear h11 D10 P10 Q10
      go_wp2_with fail
      go_roundw
      case rel => exact ⟨i + 1, by go_num, by omega, D11⟩
      case measure => simp [intOf]; omega
    · obtain rfl : i = 4 := by omega
      have B8 := bel B7 hB
      clear T7 hB
      go_wp2_with fail
      refine (lives4_any _ hF8).mono ?_
      rintro e w9 ⟨rfl, C9⟩
      go_wp2_with fail
      go_ret
      exact ⟨rfl, bel B8 C9⟩
end Go.Proofs.YtcknnlbfbjcjjaaDoor
