/- The model of a disk: New, Files. -/
import Derived.Test.YtmofakcpldbbmaaMdF
import Derived.Deep.RegionWith
namespace Go.Proofs.Ytmofakcpldbbmaa
open Go.RowKit

theorem newD_u (r : Int) : (newD r).used = 0 := by
  show sumL (fun _ => 0) 64 = 0
  decide
theorem newD_okD (r : Int) (h0 : 0 ≤ r) (h1 : r ≤ 16777216) : DOk (newD r) :=
  ⟨fun _ _ => rfl, fun _ => Nat.le_refl _, ⟨h0, h1⟩, by rw [newD_u]; exact h0, Nat.zero_le _⟩
theorem mnew_at {w : World} {q gB gF : Nat} {room : Int} (h0 : 0 ≤ room) (h1 : room ≤ 16777216) (hq : w.heap[q]? = some (moO room gB gF false (-1))) (hB : w.heap[gB]? = some (.cells (madeCells #[.slice none 0 0] 64) 27 (0, 0))) (hF : w.heap[gF]? = some (.cells (madeCells #[.int .i64 0] 64) 3 (0, 0)))
    (h2 : q ≠ gB) (h3 : q ≠ gF) (h4 : gB ≠ gF) : MoX w q gB gF (List.replicate 64 (.slice none 0 0)) (-1) (fun b => b = q ∨ b = gB ∨ b = gF) (newD room) := by
  have l1 := (Array.getElem?_eq_some_iff.1 hq).1
  have l2 := (Array.getElem?_eq_some_iff.1 hB).1
  have l3 := (Array.getElem?_eq_some_iff.1 hF).1
  have hn : ∀ (i : Nat) (v : Value), (List.replicate 64 (Value.slice none 0 0))[i]? = some v → v = .slice none 0 0 := fun i v hv => by
    rw [List.getElem?_replicate] at hv
    split at hv
    · exact (Option.some.inj hv).symm
    · cases hv
  refine ⟨⟨hq, ⟨by decide, .inr ⟨gB, 64, _, rfl, Nat.zero_le _, hB, Nat.le_refl _, by unfold maxLen; omega, size_madeCells _ _, by kernel_rfl⟩⟩, ⟨by kernel_rfl, .inr ⟨gF, 64, _, rfl, Nat.zero_le _, hF, Nat.le_refl _, by unfold maxLen; omega, size_madeCells _ _, by kernel_rfl⟩⟩, h2, h3, h4, .inl rfl, .inr (.inl rfl), .inr (.inr rfl), fun i v hv => ?_, fun i j u v b _ hu hv hb => ?_, fun b hb => ?_⟩, ⟨(fun h => by cases h), fun _ => by omega⟩, newD_okD room h0 h1⟩
  · rw [hn i v hv]
    exact ⟨World.ownsRow_nil _ _ _ _, (fun b hb => by cases hb)⟩
  · rw [hn i u hu] at hb
    cases hb
  · rcases hb with rfl | rfl | rfl <;> assumption
theorem alloc2_at (w : World) (o o2 : Obj) : ((w.alloc o).alloc o2).heap[w.heap.size + 1]? = some o2 := by
  have := World.alloc_heap_new (w.alloc o) o2
  rw [World.size_alloc] at this
  exact this
set_option maxRecDepth 20000 in
set_option maxHeartbeats 1000000 in
theorem mnew_raw (room : Int) (h0 : 0 ≤ room) (h1 : room ≤ 16777216) (w : World) : Calls Try.prog 27 #[.int .i64 room] w fun e w' => ∃ q gB gF Y, e = .returned (.pointer (some ⟨q, 0, none⟩)) ∧ MoX w' q gB gF (List.replicate 64 (.slice none 0 0)) (-1) Y (newD room) ∧ (∀ b, Y b → w.heap.size ≤ b) ∧ Below w.heap.size w w' := by
  obtain ⟨iS, hiS, hzS, hsS, hbS⟩ := info_parts Try.infoSb
  obtain ⟨iI, hiI, hzI, hsI, hbI⟩ := info_parts Try.infoI
  have hmkB := fun W : World => run_make (P := Try.prog) W 22 27 iS _ Try.underlying22 hiS hzS .i64 .i64 64 64 (by omega) (by omega) (by rw [hbS]; omega) (by omega)
  have hmkF := fun W : World => run_make (P := Try.prog) W 33 3 iI _ Try.underlying33 hiI hzI .i64 .i64 64 64 (by omega) (by omega) (by rw [hbI]; omega) (by omega)
  rw [hsS] at hmkB
  rw [hsI] at hmkF
  have e64 : (64 : Int).toNat = 64 := rfl
  simp only [e64, Nat.mul_one] at hmkB hmkF
  clear e64
  clear hiS hzS hsS hbS hiI hzI hsI hbI
  go_enter Try.func27, Try.ntmps27
  go_wp2_with fail
  go_region_with (fail)
  · go_wp2_with fail
    go_ret
    have hB := (Below.heap_alloc ((w.drew.alloc (.cells (madeCells #[.slice none 0 0] 64) 27)).alloc (.cells (madeCells #[.int .i64 0] 64) 3)) (moO room w.heap.size (w.heap.size + 1) false (-1)) w.heap.size (by simp; omega)).trans ((Below.heap_alloc (w.drew.alloc (.cells (madeCells #[.slice none 0 0] 64) 27)) (.cells (madeCells #[.int .i64 0] 64) 3) w.heap.size (by simp)).trans (World.alloc_heap_new w.drew _))
    have hF := (Below.heap_alloc ((w.drew.alloc (.cells (madeCells #[.slice none 0 0] 64) 27)).alloc (.cells (madeCells #[.int .i64 0] 64) 3)) (moO room w.heap.size (w.heap.size + 1) false (-1)) (w.heap.size + 1) (by simp)).trans (alloc2_at w.drew _ _)
    have hq := World.alloc_heap_new ((w.drew.alloc (.cells (madeCells #[.slice none 0 0] 64) 27)).alloc (.cells (madeCells #[.int .i64 0] 64) 3)) (moO room w.heap.size (w.heap.size + 1) false (-1))
    rw [World.size_alloc, World.size_alloc] at hq
    exact ⟨_, _, _, _, rfl, mnew_at h0 h1 hq hB hF (by show w.heap.size + 1 + 1 ≠ w.heap.size; omega) (by show w.heap.size + 1 + 1 ≠ w.heap.size + 1; omega) (by omega), (fun b hb => by
      have e : w.drew.heap.size = w.heap.size := rfl
      rcases hb with rfl | rfl | rfl <;> omega), (((Below.refl _ w).drew.alloc (Nat.le_refl _) _).alloc (by simp) _).alloc (by simp; omega) _⟩
  · go_wp2_with fail
    go_ret
    have hF := (Below.heap_alloc ((w.drew.alloc (.cells (madeCells #[.int .i64 0] 64) 3)).alloc (.cells (madeCells #[.slice none 0 0] 64) 27)) (moO room (w.heap.size + 1) w.heap.size false (-1)) w.heap.size (by simp; omega)).trans ((Below.heap_alloc (w.drew.alloc (.cells (madeCells #[.int .i64 0] 64) 3)) (.cells (madeCells #[.slice none 0 0] 64) 27) w.heap.size (by simp)).trans (World.alloc_heap_new w.drew _))
    have hB := (Below.heap_alloc ((w.drew.alloc (.cells (madeCells #[.int .i64 0] 64) 3)).alloc (.cells (madeCells #[.slice none 0 0] 64) 27)) (moO room (w.heap.size + 1) w.heap.size false (-1)) (w.heap.size + 1) (by simp)).trans (alloc2_at w.drew _ _)
    have hq := World.alloc_heap_new ((w.drew.alloc (.cells (madeCells #[.int .i64 0] 64) 3)).alloc (.cells (madeCells #[.slice none 0 0] 64) 27)) (moO room (w.heap.size + 1) w.heap.size false (-1))
    rw [World.size_alloc, World.size_alloc] at hq
    exact ⟨_, _, _, _, rfl, mnew_at h0 h1 hq hB hF (by show w.heap.size + 1 + 1 ≠ w.heap.size + 1; omega) (by show w.heap.size + 1 + 1 ≠ w.heap.size; omega) (by omega), (fun b hb => by
      have e : w.drew.heap.size = w.heap.size := rfl
      rcases hb with rfl | rfl | rfl <;> omega), (((Below.refl _ w).drew.alloc (Nat.le_refl _) _).alloc (by simp) _).alloc (by simp; omega) _⟩
theorem mnew_any (room : Int) (h0 : 0 ≤ room) (h1 : room ≤ 16777216) (w : World) : Calls Try.prog 27 #[.int .i64 room] w fun e w' => ∃ q Y, e = .returned (.pointer (some ⟨q, 0, none⟩)) ∧ MAt w' q Y (newD room) ∧ (∀ b, Y b → w.heap.size ≤ b) ∧ Below w.heap.size w w' :=
  (mnew_raw room h0 h1 w).mono fun _ _ ⟨q, gB, gF, Y, he, hM, hY, hB⟩ => ⟨q, Y, he, ⟨gB, gF, _, _, hM⟩, hY, hB⟩
section
variable {q gB gF : Nat} {D : Dk} {vs : List Value} {fm : List Int} {room : Int} {off : Bool} {pl : Int} {Y : Nat → Prop}
def filesN (D : Dk) (n : Nat) : List Int := ((List.range n).filter fun (i : Nat) => !(D.fs (i : Int)).1.isEmpty).map fun (i : Nat) => (i : Int)
theorem filesN_succ (D : Dk) (n : Nat) : filesN D (n + 1) = if (D.fs (n : Int)).1 = [] then filesN D n else filesN D n ++ [(n : Int)] := by
  unfold filesN
  rw [List.range_succ, List.filter_append, List.map_append]
  by_cases h : (D.fs (n : Int)).1 = []
  · rw [if_pos h]
    simp [h]
  · rw [if_neg h]
    have : (D.fs (n : Int)).1.isEmpty = false := by simpa using h
    simp [this]
theorem filesN_len (D : Dk) (n : Nat) : (filesN D n).length ≤ n := by
  unfold filesN
  rw [List.length_map]
  exact Nat.le_trans (List.length_filter_le _ _) (by simp)
set_option maxRecDepth 20000 in
set_option maxHeartbeats 1000000 in
theorem mfiles_any (w : World) (h : MoR w q gB gF vs (fun i => (D.fs (i : Int)).1) fm room off pl Y) :
    Calls Try.prog 50 #[.pointer (some ⟨q, 0, none⟩)] w (RetMade w 3 (D.files.map (Value.int .i64))) := by
  have HM := Bx.mk h
  go_enter Try.func50, Try.ntmps50
  go_wp2_with fail
  go_loopw [3, 4] (fun u v W => ∃ (i : Nat) (done : List Int), v = .int .i64 (i : Int) ∧ i ≤ 64 ∧ done.length ≤ i ∧ Bx (filesN D i = done) ∧ W.ownsRow w.heap.size 3 1 u done.length (done.map (Value.int .i64)) ∧ Below w.heap.size w W) (fun _ v _ => 64 - (match v with | .int _ k => k.toNat | _ => 0))
  case atStart => exact ⟨0, [], rfl, Nat.zero_le _, Nat.le_refl _, ⟨rfl⟩, World.ownsRow_nil _ _ _ _, Below.refl _ _⟩
  case round =>
    rename World => W
    obtain ⟨i, done, rfl, hi, hdl, HD, O, B⟩ := hrel
    have H := HM.out.later B
    have c1 := H.c1
    by_cases hlt : i < 64
    · have hlti : (i : Int) < 64 := by omega
      obtain ⟨a, c, _, hci, _, _⟩ := H.at hlt
      have hsucc := filesN_succ D i
      rw [HD.out] at hsucc
      obtain ⟨x, hx⟩ : ∃ x, (D.fs (i : Int)).1 = x := ⟨_, rfl⟩
      rw [hx] at hci hsucc
      obtain ⟨n, hn⟩ : ∃ n, x.length = n := ⟨_, rfl⟩
      rw [hn] at hci
      obtain ⟨ad, cd, rfl⟩ := own_isSlice O
      by_cases h0 : n = 0
      · have hx0 : x = [] := List.eq_nil_of_length_eq_zero (by omega)
        rw [if_pos hx0] at hsucc
        have HS := Bx.mk hsucc
        subst h0
        clear hx hn hsucc hx0 H
        go_wp2_with fail
        go_roundw
        case rel => exact ⟨i + 1, done, by simp, hlt, by omega, HS, O, B⟩
        case measure => show 64 - ((i : Int) + 1).toNat < 64 - ((i : Int)).toNat; omega
      · have hx0 : x ≠ [] := fun e => h0 (by rw [← hn, e]; rfl)
        rw [if_neg hx0] at hsucc
        have HS := Bx.mk hsucc
        have hn0 : (0 : Int) < (n : Int) := by omega
        clear hx hn hsucc hx0 H
        go_wp2_with (at_builtin; go_loud (refine wpList_app2 _ rfl _ _ rfl Try.elI w.heap.size _ done.length _ rfl (O.alloc _) _ 1 [.int .i64 (i : Int)] rfl (Rv.one _ _ _) rfl (ones1 _ rfl) (by omega) (by have := B.size; simp; omega) ?_; intro v5 w5 O5 g5 s5; refine later ?_))
        refine Later.in ?_
        have B5 : Below w.heap.size w w5 := (B.alloc B.size _).grown g5 (by have := B.size; simp; omega) (fun g hg => (O.lt g hg).1)
        have O5 : w5.ownsRow w.heap.size 3 1 v5 (done ++ [(i : Int)]).length ((done ++ [(i : Int)]).map (Value.int .i64)) := by rw [List.length_append, List.map_append]; exact O5
        have hdl5 : (done ++ [(i : Int)]).length ≤ i + 1 := by simp; omega
        obtain ⟨d5, hd5⟩ : ∃ d, done ++ [(i : Int)] = d := ⟨_, rfl⟩
        rw [hd5] at O5 HS hdl5
        clear hd5 g5 s5
        obtain ⟨a5, c5, rfl⟩ := own_isSlice O5
        go_wp2_with fail
        go_roundw
        case rel => exact ⟨i + 1, d5, by simp, hlt, hdl5, HS, O5, B5⟩
        case measure => show 64 - ((i : Int) + 1).toNat < 64 - ((i : Int)).toNat; omega
    · obtain rfl : i = 64 := by omega
      clear H
      go_wp2_with fail
      go_ret
      have e : D.files = done := HD.out
      rw [e]
      exact retMade O rfl B
end
end Go.Proofs.Ytmofakcpldbbmaa
