/- Package pool's model: New; a row that is appended to. -/
import Derived.Test.YtfdacckkdjpjhaaPmN
namespace Go.Proofs.Ytfdacckkdjpjhaa
open Go.RowKit

theorem Try.infoBl : (Try.prog.info? 4).map (fun i => (i.zero, i.size, i.bytes)) = some (some (.bool false), 1, 1) := by kernel_rfl
theorem Try.elBl : Elem Try.prog 126 4 (.bool false) 1 1 := ⟨Try.underlying126, Try.infoBl, rfl, by decide, by decide⟩
theorem DStep.grown {X X' : Nat → Prop} {w w1 w2 : World} {row : Option Nat} (S : DStep X X' w w1) (g : w1.grownBy w2 row) (hr : ∀ b, row = some b → X b ∨ w.heap.size ≤ b) : DStep X X' w w2 :=
  ⟨g.os.trans S.os, g.tape.trans S.tape, g.output.trans S.output, Nat.le_trans S.size g.size, fun k hk hX => (g.block k (Nat.lt_of_lt_of_le hk S.size) (fun e => (hr k e.symm).elim hX (fun h => by omega))).trans (S.block k hk hX), S.grow⟩
theorem DStep.weak {X X' X2 : Nat → Prop} {w w' : World} (S : DStep X X' w w') (h : ∀ b, X2 b → X b ∨ w.heap.size ≤ b) : DStep X X2 w w' := ⟨S.os, S.tape, S.output, S.size, S.block, h⟩
section
variable {w w5 : World} {q : Nat} {av jv tv v5 : Value} {J : List JV} {Y R : Nat → Prop} {M : Md} {o : Obj}
/-- A worker's life is appended. -/
theorem MX.appA (h : MX w q av jv tv J Y R M) (g5 : (w.alloc o).grownBy w5 av.ownBlock) (s5 : SameOrNew (w.alloc o) av v5) {l : List Bool} (O5 : w5.ownsRow 0 4 1 v5 l.length (l.map Value.bool)) :
    ∃ Y', MX (w5.setCell ⟨q, 0, none⟩ v5) q v5 jv tv J Y' R { M with alive := l } ∧ DStep Y Y' w (w5.setCell ⟨q, 0, none⟩ v5) := by
  have B1 := (Below.refl w.heap.size w).alloc (Nat.le_refl _) o
  have h1 := h.later B1
  have hq1 := h1.lt
  have hb5 := (g5.block q hq1 (fun e => absurd rfl (kind_ne (h1.ka e.symm) h1.kq (by decide)))).trans h1.blk
  have hv5 : ∀ b, v5.ownBlock = some b → b ≠ q := fun b hb => s5.elim (fun e => kind_ne (h1.ka (e ▸ hb)) h1.kq (by decide)) (fun e => by have := e b hb; omega)
  have hg := g5.size
  have hsz := B1.size
  have S : DStep Y Y w (w5.setCell ⟨q, 0, none⟩ v5) := ((DStep.ofBelow Y B1).grown g5 (fun b hb => .inl (h.ya b hb))).set (.inl h.yq) v5
  refine ⟨_, h1.turnA (by rw [World.size_setCell]; exact hg) (l := l) ?_ (own_same O5 fun b hb => Below.heap_setCell _ _ _ _ (hv5 b hb)) (fun b hb hn hr => (Below.heap_setCell _ _ _ _ hn).trans (g5.block b hb (fun e => hr e.symm))) s5, S.weak fun b hb => ?_⟩
  · unfold mdO at hb5 ⊢
    simp [World.setCell, Array.getElem?_modify, hb5]
  · rcases hb with hb | hb | hb | hb
    · exact .inl hb
    · exact s5.elim (fun e => .inl (h.ya b (e ▸ hb))) (fun e => .inr (by have := e b hb; omega))
    · exact .inl (h.yj b hb)
    · exact .inl (h.yt b hb)
/-- A try is appended. -/
theorem MX.appT (h : MX w q av jv tv J Y R M) (g5 : (w.alloc o).grownBy w5 tv.ownBlock) (s5 : SameOrNew (w.alloc o) tv v5) {l : List Tr} (O5 : w5.ownsRow 0 135 5 v5 l.length (trcells l)) :
    ∃ Y', MX (w5.setCell ⟨q, 4, none⟩ v5) q av jv v5 J Y' R { M with tries := l } ∧ DStep Y Y' w (w5.setCell ⟨q, 4, none⟩ v5) := by
  have B1 := (Below.refl w.heap.size w).alloc (Nat.le_refl _) o
  have h1 := h.later B1
  have hq1 := h1.lt
  have hb5 := (g5.block q hq1 (fun e => absurd rfl (kind_ne (h1.kt e.symm) h1.kq (by decide)))).trans h1.blk
  have hv5 : ∀ b, v5.ownBlock = some b → b ≠ q := fun b hb => s5.elim (fun e => kind_ne (h1.kt (e ▸ hb)) h1.kq (by decide)) (fun e => by have := e b hb; omega)
  have hg := g5.size
  have hsz := B1.size
  have S : DStep Y Y w (w5.setCell ⟨q, 4, none⟩ v5) := ((DStep.ofBelow Y B1).grown g5 (fun b hb => .inl (h.yt b hb))).set (.inl h.yq) v5
  refine ⟨_, h1.turnT (by rw [World.size_setCell]; exact hg) (l := l) ?_ (own_same O5 fun b hb => Below.heap_setCell _ _ _ _ (hv5 b hb)) (fun b hb hn hr => (Below.heap_setCell _ _ _ _ hn).trans (g5.block b hb (fun e => hr e.symm))) s5, S.weak fun b hb => ?_⟩
  · unfold mdO at hb5 ⊢
    simp [World.setCell, Array.getElem?_modify, hb5]
  · rcases hb with hb | hb | hb | hb
    · exact .inl hb
    · exact .inl (h.ya b hb)
    · exact .inl (h.yj b hb)
    · exact s5.elim (fun e => .inl (h.yt b (e ▸ hb))) (fun e => .inr (by have := e b hb; omega))
end
theorem mdOf_new (n : Nat) (t : Int) : mdOf (newPl n t) [] = ⟨List.replicate n true, t, 0, [], []⟩ := by
  unfold mdOf newPl
  simp
theorem rep_snoc (i : Nat) : (List.replicate i true).map Value.bool ++ [.bool true] = (List.replicate (i + 1) true).map Value.bool := by
  rw [List.replicate_succ', List.map_append]
  rfl
set_option maxRecDepth 10000 in
set_option maxHeartbeats 1000000 in
theorem mnew_any (n : Nat) (t : Int) (hn : 1 ≤ n ∧ n ≤ 64) (ht : 1 ≤ t ∧ t ≤ 1099511627776) (w : World) :
    Calls Try.prog 31 #[.int .i64 (n : Int), .int .i64 t] w fun e w' => ∃ q Y, e = .returned (.pointer (some ⟨q, 0, none⟩)) ∧ MAt w' q Y (fun _ => False) (mdOf (newPl n t) []) ∧ (∀ b, Y b → w.heap.size ≤ b) ∧ Below w.heap.size w w' := by
  obtain ⟨hn1, hn2⟩ := hn
  obtain ⟨ht1, ht2⟩ := ht
  go_enter Try.func31, Try.ntmps31
  go_upto_region 4 with fail
  have hb := World.alloc_heap_new w (.cells #[.slice none 0 0, .int .i64 t, .int .i64 0, .slice none 0 0, .slice none 0 0] 130)
  have B1 := (Below.refl w.heap.size w).alloc (Nat.le_refl _) (.cells #[.slice none 0 0, .int .i64 t, .int .i64 0, .slice none 0 0, .slice none 0 0] 130)
  have hs1 : (w.alloc (.cells #[.slice none 0 0, .int .i64 t, .int .i64 0, .slice none 0 0, .slice none 0 0] 130)).heap.size = w.heap.size + 1 := World.size_alloc _ _
  generalize w.alloc (.cells #[.slice none 0 0, .int .i64 t, .int .i64 0, .slice none 0 0, .slice none 0 0] 130) = w1 at *
  obtain ⟨q, hq⟩ : ∃ q, w.heap.size = q := ⟨_, rfl⟩
  have HX0 : Bx (MX w1 q (.slice none 0 0) (.slice none 0 0) (.slice none 0 0) [] (fun b => b = q) (fun _ => False) ⟨List.replicate 0 true, t, 0, [], []⟩) :=
    ⟨⟨by rw [← hq]; exact hb, World.ownsRow_nil _ _ _ _, World.ownsRow_nil _ _ _ _, World.ownsRow_nil _ _ _ _, rfl, (fun _ h => by cases h), rfl, (fun _ h => by cases h), (fun _ h => by cases h), (fun _ h => by cases h), (fun _ _ h => h), (fun b hb => by omega), (fun _ h => h.elim)⟩⟩
  have HB0 := Bx.mk B1
  have HQ := Bx.mk hq
  rw [hq]
  clear hb B1 hs1 hq
  go_wp2_with fail
  go_loopw [6] (fun u W => ∃ (i : Nat) (av : Value) (Y : Nat → Prop), u = .int .i64 (i : Int) ∧ i ≤ n ∧ Bx (MX W q av (.slice none 0 0) (.slice none 0 0) [] Y (fun _ => False) ⟨List.replicate i true, t, 0, [], []⟩) ∧ Bx (Below w.heap.size w W ∧ ∀ b, Y b → w.heap.size ≤ b)) (fun u _ => n - (intOf u).toNat)
  case atStart => exact ⟨0, _, _, rfl, Nat.zero_le _, HX0, ⟨HB0.out, fun b hb => by have := HQ.out; omega⟩⟩
  case round =>
    rename World => W
    clear HX0 HB0
    obtain ⟨i, av, Y, rfl, hi, HX, HB⟩ := hrel
    by_cases hlt : i < n
    · have hltI : (i : Int) < (n : Int) := by omega
      obtain ⟨a, c, hav⟩ := own_isSlice HX.out.al
      replace hav : av = .slice a i c := by rw [hav, List.length_replicate]
      subst hav
      have c0 := HX.out.c0
      have O := HX.out.al.alloc (.cells #[.bool true] 4)
      rw [List.length_replicate] at O
      have hql := HX.out.lt
      go_wp2_with (at_builtin; go_loud (refine wpList_app2 _ rfl _ _ rfl Try.elBl 0 (.slice a i c) i _ rfl O _ 1 [.bool true] rfl (Rv.one _ _ _) rfl (ones1 _ rfl) (by omega) (Nat.zero_le _) ?_; intro v5 w5 O5 g5 s5; refine later ?_))
      refine Later.in ?_
      rw [rep_snoc] at O5
      obtain ⟨k5, a5, c5, rfl⟩ := own_shape O5
      obtain ⟨Y', X5, S5⟩ := HX.out.appA g5 s5 (l := List.replicate (i + 1) true) (by rw [List.length_replicate]; exact O5)
      have HX5 := Bx.mk X5
      have HS5 := Bx.mk S5
      have hb5 := X5.blk
      have hf5 : w5.frozen? ⟨q, 0, none⟩ = false := by
        have h1 := HX.out.later ((Below.refl W.heap.size W).alloc (Nat.le_refl _) (.cells #[.bool true] 4))
        have hb := (g5.block q h1.lt (fun e => absurd rfl (kind_ne (h1.ka e.symm) h1.kq (by decide)))).trans h1.blk
        unfold mdO at hb
        simp [World.frozen?, hb]
      obtain ⟨u5, hc5⟩ : ∃ u, w5.cell? ⟨q, 0, none⟩ = some u := by
        have h1 := HX.out.later ((Below.refl W.heap.size W).alloc (Nat.le_refl _) (.cells #[.bool true] 4))
        have hb := (g5.block q h1.lt (fun e => absurd rfl (kind_ne (h1.ka e.symm) h1.kq (by decide)))).trans h1.blk
        unfold mdO at hb
        exact ⟨_, by simp [World.cell?, hb]; rfl⟩
      have hq5 := World.block_lt_of_cell? _ _ hc5
      clear X5 S5 hb5 O5 g5 s5 O c0
      go_wp2_with fail
      go_roundw
      case rel => exact ⟨i + 1, _, _, by simp, by omega, HX5, ⟨HB.out.1.trans (HS5.out.toBelow HB.out.1.size HB.out.2), HS5.out.ge HB.out.1.size HB.out.2⟩⟩
      case measure => simp [intOf]; omega
    · obtain rfl : i = n := by omega
      go_wp2_with fail
      go_ret
      exact ⟨q, Y, rfl, by rw [mdOf_new]; exact ⟨_, _, _, _, HX.out⟩, HB.out.2, HB.out.1⟩
set_option maxRecDepth 10000 in
theorem mnew_bad (n t : Int) (h : n < 1 ∨ 64 < n ∨ t < 1 ∨ 1099511627776 < t) (w : World) :
    Calls Try.prog 31 #[.int .i64 n, .int .i64 t] w fun e w' => e = .returned (.pointer none) ∧ w' = w := by
  by_cases h1 : n < 1
  · go_enter Try.func31, Try.ntmps31
    clear h
    go_wp2_with fail
    go_ret
    exact ⟨rfl, rfl⟩
  · by_cases h2 : 64 < n
    · go_enter Try.func31, Try.ntmps31
      clear h
      go_wp2_with fail
      go_ret
      exact ⟨rfl, rfl⟩
    · by_cases h3 : t < 1
      · go_enter Try.func31, Try.ntmps31
        clear h
        go_wp2_with fail
        go_ret
        exact ⟨rfl, rfl⟩
      · have h4 : 1099511627776 < t := by omega
        go_enter Try.func31, Try.ntmps31
        clear h
        go_wp2_with fail
        go_ret
        exact ⟨rfl, rfl⟩
end Go.Proofs.Ytfdacckkdjpjhaa
