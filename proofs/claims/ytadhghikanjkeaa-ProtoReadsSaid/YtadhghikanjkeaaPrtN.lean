/- The law's lives. -/
import Derived.Test.YtadhghikanjkeaaPrtM
import Derived.Deep.OwnRows
import Derived.Deep.RegionLaw
namespace Go.Proofs.Ytadhghikanjkeaa
open Go.RowKit

theorem zero_valid : validM Msg.zero = true := by decide
theorem zero_core : coreP Msg.zero = [0, 0, 0, 0, 0, 0] := by decide
theorem zero_frame : ∃ h t : List UInt8, h.length = 8 ∧ t.length = 8 ∧ framedP (coreP Msg.zero) = [6, 0, 0, 0] ++ (h ++ ([0, 0, 0, 0, 0, 0] ++ t)) := by
  refine ⟨lenH 6, coreH [0, 0, 0, 0, 0, 0], lenH_len _, coreH_len _, ?_⟩
  rw [zero_core]
  rfl
theorem zero_dec : decP (framedP (coreP Msg.zero)) = (Msg.zero, 26, 0) := by
  have h := decP_framed (coreP Msg.zero) [] (by rw [zero_core]; decide)
  rw [List.append_nil, decC_core _ zero_valid] at h
  rw [h, zero_core]
  rfl

set_option maxRecDepth 20000 in
set_option maxHeartbeats 2000000 in
theorem plives_any (w : World) : Calls Try.prog 18 #[] w fun e w' => e = .returned (.bool true) ∧ Below w.heap.size w w' := by
  have HE := Lib.hid (encode_any Msg.zero none none 0 0 w ⟨Rv.nil _, Rv.nil _⟩)
  have hl26 : (framedP (coreP Msg.zero)).length = 26 := by rw [framedP_len, zero_core]; rfl
  obtain ⟨hh, tt, hhl, htl, hfr⟩ := zero_frame
  have hd := zero_dec
  obtain ⟨b, hb⟩ : ∃ b, framedP (coreP Msg.zero) = b := ⟨_, rfl⟩
  rw [hb] at hd hl26 hfr
  have HB := Lib.hid hb
  have HD := Lib.hid hd
  have HF := Lib.hid hfr
  clear hb hd hfr
  go_enter Try.func18, Try.ntmps18
  go_wp2_with fail
  refine HE.out.mono ?_
  rintro e w1 ⟨B1, hpost⟩
  rw [if_pos zero_valid] at hpost
  obtain ⟨v, rfl, hown⟩ := hpost
  rw [HB.out, hl26] at hown
  have rb := Rv.of_own hown
  obtain ⟨ab, cb, rfl, hcb, _⟩ := rb.opened
  clear hown HE
  go_wp2_with fail
  have HDe := decode_any ab cb b w1 (by rw [hl26]; exact rb) (by omega)
  rw [hl26] at HDe
  refine HDe.mono ?_
  unfold DePost
  rw [HD.out]
  rintro e w2 ⟨x, rfl, ⟨a1, a2, c1, c2, rfl, M2, _, _⟩, B2⟩
  have R2 := rb.below B2
  clear HDe M2 rb
  unfold msgV Msg.zero
  simp only [List.length_nil]
  have B3 := bel B1 B2
  go_wp2_with fail
  have hcb12 : (18 : Int) ≤ (cb : Int) := by omega
  have hcbn : ¬ cb = 12 := by omega
  have B4 : Below w.heap.size w ((w2.alloc (.cells #[.int .i64 0, .int .i64 0, .int .i64 0, .int .i64 0, .slice a1 0 c1, .slice a2 0 c2] 33)).drew) := (B3.alloc B3.size _).drew
  have R3 : Rv ((w2.alloc (.cells #[.int .i64 0, .int .i64 0, .int .i64 0, .int .i64 0, .slice a1 0 c1, .slice a2 0 c2] 33)).drew) (.slice ab b.length cb) b.length (b.map vB) := by rw [hl26]; exact R2.below ((Below.refl _ _).alloc (Nat.le_refl _) _).drew
  have hg0 : b[0]? = some 6 := by rw [HF.out]; rfl
  have hg1 : b[1]? = some 0 := by rw [HF.out]; rfl
  have hg12 : (b.drop 12).take 6 = [0, 0, 0, 0, 0, 0] := by
    rw [HF.out]
    have e : [6, 0, 0, 0] ++ (hh ++ ([0, 0, 0, 0, 0, 0] ++ tt)) = ([6, 0, 0, 0] ++ hh) ++ ([0, 0, 0, 0, 0, 0] ++ tt) := by rw [List.append_assoc]
    rw [e, List.drop_append_of_le_length (by simp [hhl]), List.drop_of_length_le (by simp [hhl])]
    rfl
  obtain ⟨g, off, rfl, hcell0⟩ := R3.rd.cell (show (b.map vB)[0]? = some (vB 6) by rw [List.getElem?_map, hg0]; rfl)
  obtain ⟨g', off', e', hcell1⟩ := R3.rd.cell (show (b.map vB)[1]? = some (vB 0) by rw [List.getElem?_map, hg1]; rfl)
  cases e'
  replace hcell0 : World.cell? ((w2.alloc (.cells #[.int .i64 0, .int .i64 0, .int .i64 0, .int .i64 0, .slice a1 0 c1, .slice a2 0 c2] 33)).drew) ⟨g, off, none⟩ = some (.int .u8 6) := hcell0
  replace hcell1 : World.cell? ((w2.alloc (.cells #[.int .i64 0, .int .i64 0, .int .i64 0, .int .i64 0, .slice a1 0 c1, .slice a2 0 c2] 33)).drew) ⟨g, off + 1, none⟩ = some (.int .u8 0) := hcell1
  have hmk : ∀ W : World, (Instr.makeSlice 23 (.int .i64 6) (.int .i64 6)).run Try.prog W = .ok (.slice (some ⟨W.heap.size, 0, none⟩) 6 6) (W.alloc (.cells #[.int .u8 0, .int .u8 0, .int .u8 0, .int .u8 0, .int .u8 0, .int .u8 0] 5)) := fun W => by
    have h := run_make_row' 23 5 (.int .u8 0) 1 Try.underlying23 Try.infoB rfl .i64 .i64 6 (by omega) (by omega) W
    rw [show madeCells #[Value.int .u8 0] 6 = #[.int .u8 0, .int .u8 0, .int .u8 0, .int .u8 0, .int .u8 0, .int .u8 0] from by kernel_rfl] at h
    exact h
  have RC := rvCore R3 12 6 (by omega) (by omega)
  rw [hg12] at RC
  have hcvA : (convert 23 9 (.slice (some ⟨g, off + 12, none⟩) 6 (cb - 12))).run Try.prog ((w2.alloc (.cells #[.int .i64 0, .int .i64 0, .int .i64 0, .int .i64 0, .slice a1 0 c1, .slice a2 0 c2] 33)).drew) = .ok (.string ⟨#[0, 0, 0, 0, 0, 0]⟩) ((w2.alloc (.cells #[.int .i64 0, .int .i64 0, .int .i64 0, .int .i64 0, .slice a1 0 c1, .slice a2 0 c2] 33)).drew) := run_tostring _ _ _ _ Try.underlying23 Try.underlying5 Try.underlying9 _ [0, 0, 0, 0, 0, 0] RC
  have hcvA1 : (convert 23 9 (.slice (some ⟨g, off + 12, none⟩) 6 (cb - 12))).run Try.prog ((w2.alloc (.cells #[.int .i64 0, .int .i64 0, .int .i64 0, .int .i64 0, .slice a1 0 c1, .slice a2 0 c2] 33)).drew.alloc (.cells #[.int .u8 0, .int .u8 0, .int .u8 0, .int .u8 0, .int .u8 0, .int .u8 0] 5)) = .ok (.string ⟨#[0, 0, 0, 0, 0, 0]⟩) ((w2.alloc (.cells #[.int .i64 0, .int .i64 0, .int .i64 0, .int .i64 0, .slice a1 0 c1, .slice a2 0 c2] 33)).drew.alloc (.cells #[.int .u8 0, .int .u8 0, .int .u8 0, .int .u8 0, .int .u8 0, .int .u8 0] 5)) := run_tostring _ _ _ _ Try.underlying23 Try.underlying5 Try.underlying9 _ [0, 0, 0, 0, 0, 0] (RC.below ((Below.refl _ _).alloc (Nat.le_refl _) _))
  have hcvA2 : (convert 23 9 (.slice (some ⟨g, off + 12, none⟩) 6 (cb - 12))).run Try.prog (((w2.alloc (.cells #[.int .i64 0, .int .i64 0, .int .i64 0, .int .i64 0, .slice a1 0 c1, .slice a2 0 c2] 33)).alloc (.cells #[.int .u8 0, .int .u8 0, .int .u8 0, .int .u8 0, .int .u8 0, .int .u8 0] 5)).drew) = .ok (.string ⟨#[0, 0, 0, 0, 0, 0]⟩) (((w2.alloc (.cells #[.int .i64 0, .int .i64 0, .int .i64 0, .int .i64 0, .slice a1 0 c1, .slice a2 0 c2] 33)).alloc (.cells #[.int .u8 0, .int .u8 0, .int .u8 0, .int .u8 0, .int .u8 0, .int .u8 0] 5)).drew) := hcvA1
  have RZ : Rv ((w2.alloc (.cells #[.int .i64 0, .int .i64 0, .int .i64 0, .int .i64 0, .slice a1 0 c1, .slice a2 0 c2] 33)).drew.alloc (.cells #[.int .u8 0, .int .u8 0, .int .u8 0, .int .u8 0, .int .u8 0, .int .u8 0] 5)) (.slice (some ⟨w2.heap.size + 1, 0, none⟩) 6 6) 6 [vB 0, vB 0, vB 0, vB 0, vB 0, vB 0] := Rv.of_cells (Nat.le_refl _) (by unfold maxLen; omega) (fun i u hu => by
    rw [← hu]
    have hn := World.alloc_heap_new ((w2.alloc (.cells #[.int .i64 0, .int .i64 0, .int .i64 0, .int .i64 0, .slice a1 0 c1, .slice a2 0 c2] 33)).drew) (.cells #[.int .u8 0, .int .u8 0, .int .u8 0, .int .u8 0, .int .u8 0, .int .u8 0] 5)
    have hs : ((w2.alloc (.cells #[.int .i64 0, .int .i64 0, .int .i64 0, .int .i64 0, .slice a1 0 c1, .slice a2 0 c2] 33)).drew).heap.size = w2.heap.size + 1 := World.size_alloc _ _
    rw [hs] at hn
    unfold World.cell?
    rw [hn]
    simp [vB])
  have hcvB1 : (convert 23 9 (.slice (some ⟨w2.heap.size + 1, 0, none⟩) 6 6)).run Try.prog ((w2.alloc (.cells #[.int .i64 0, .int .i64 0, .int .i64 0, .int .i64 0, .slice a1 0 c1, .slice a2 0 c2] 33)).drew.alloc (.cells #[.int .u8 0, .int .u8 0, .int .u8 0, .int .u8 0, .int .u8 0, .int .u8 0] 5)) = .ok (.string ⟨#[0, 0, 0, 0, 0, 0]⟩) ((w2.alloc (.cells #[.int .i64 0, .int .i64 0, .int .i64 0, .int .i64 0, .slice a1 0 c1, .slice a2 0 c2] 33)).drew.alloc (.cells #[.int .u8 0, .int .u8 0, .int .u8 0, .int .u8 0, .int .u8 0, .int .u8 0] 5)) := run_tostring _ _ _ _ Try.underlying23 Try.underlying5 Try.underlying9 _ [0, 0, 0, 0, 0, 0] RZ
  have hcvB2 : (convert 23 9 (.slice (some ⟨w2.heap.size + 1, 0, none⟩) 6 6)).run Try.prog (((w2.alloc (.cells #[.int .i64 0, .int .i64 0, .int .i64 0, .int .i64 0, .slice a1 0 c1, .slice a2 0 c2] 33)).alloc (.cells #[.int .u8 0, .int .u8 0, .int .u8 0, .int .u8 0, .int .u8 0, .int .u8 0] 5)).drew) = .ok (.string ⟨#[0, 0, 0, 0, 0, 0]⟩) (((w2.alloc (.cells #[.int .i64 0, .int .i64 0, .int .i64 0, .int .i64 0, .slice a1 0 c1, .slice a2 0 c2] 33)).alloc (.cells #[.int .u8 0, .int .u8 0, .int .u8 0, .int .u8 0, .int .u8 0, .int .u8 0] 5)).drew) := hcvB1
  have hlt := World.block_lt_of_cell? _ _ hcell0
  have hbk : ((w2.alloc (.cells #[.int .i64 0, .int .i64 0, .int .i64 0, .int .i64 0, .slice a1 0 c1, .slice a2 0 c2] 33)).drew.alloc (.cells #[.int .u8 0, .int .u8 0, .int .u8 0, .int .u8 0, .int .u8 0, .int .u8 0] 5)).heap[g]? = ((w2.alloc (.cells #[.int .i64 0, .int .i64 0, .int .i64 0, .int .i64 0, .slice a1 0 c1, .slice a2 0 c2] 33)).drew).heap[g]? := Below.heap_alloc _ _ _ hlt
  have hcA0 : World.cell? ((w2.alloc (.cells #[.int .i64 0, .int .i64 0, .int .i64 0, .int .i64 0, .slice a1 0 c1, .slice a2 0 c2] 33)).drew.alloc (.cells #[.int .u8 0, .int .u8 0, .int .u8 0, .int .u8 0, .int .u8 0, .int .u8 0] 5)) ⟨g, off, none⟩ = some (.int .u8 6) := (World.cell?_of_block hbk).trans hcell0
  have hcA1 : World.cell? ((w2.alloc (.cells #[.int .i64 0, .int .i64 0, .int .i64 0, .int .i64 0, .slice a1 0 c1, .slice a2 0 c2] 33)).drew.alloc (.cells #[.int .u8 0, .int .u8 0, .int .u8 0, .int .u8 0, .int .u8 0, .int .u8 0] 5)) ⟨g, off + 1, none⟩ = some (.int .u8 0) := (World.cell?_of_block hbk).trans hcell1
  have B5 : Below w.heap.size w ((w2.alloc (.cells #[.int .i64 0, .int .i64 0, .int .i64 0, .int .i64 0, .slice a1 0 c1, .slice a2 0 c2] 33)).drew.alloc (.cells #[.int .u8 0, .int .u8 0, .int .u8 0, .int .u8 0, .int .u8 0, .int .u8 0] 5)) := B4.alloc B4.size _
  go_region_law (fail)
  all_goals
    go_wp2_with fail
    go_ret
    exact ⟨rfl, B5⟩
end Go.Proofs.Ytadhghikanjkeaa
