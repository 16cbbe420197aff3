/- The model's desk: Take. -/
import Derived.Test.YtpehnggglolnoaaEdD
namespace Go.Proofs.Ytpehnggglolnoaa
open Go.RowKit

theorem edcells_one (u : Value) (p : EdV) (h : u ∈ p.cells) : u.oneCell' = true := by
  simp only [EdV.cells, List.mem_cons, List.not_mem_nil, or_false] at h
  rcases h with rfl | rfl | rfl <;> rfl
theorem itcells_one (u : Value) (p : ItV) (h : u ∈ p.cells) : u.oneCell' = true := by
  simp only [ItV.cells, List.mem_cons, List.not_mem_nil, or_false] at h
  rcases h with rfl | rfl | rfl | rfl | rfl | rfl <;> rfl
theorem threeV_cell {w : World} {b k : Nat} (hk : k ≠ b) (c0 c1 c2 : Value) (j : Nat) : (threeV w b c0 c1 c2).cell? ⟨k, j, none⟩ = w.cell? ⟨k, j, none⟩ := by
  unfold World.cell?
  rw [threeV_far (k := k) hk]
/-- An item in a block of its own. -/
def BoxI (w : World) (b : Nat) (x : ItV) : Prop := w.heap[b]? = some (.cells x.cells.toArray 47 (0, 0))
section
variable {w w' : World} {b : Nat} {x : ItV}
theorem BoxI.lt (h : BoxI w b x) : b < w.heap.size := (Array.getElem?_eq_some_iff.1 h).1
theorem BoxI.kept (h : BoxI w b x) (hk : w'.heap[b]? = w.heap[b]?) : BoxI w' b x := hk.trans h
theorem BoxI.later (h : BoxI w b x) (B : Below w.heap.size w w') : BoxI w' b x := h.kept (B.block b h.lt)
theorem BoxI.at (h : BoxI w b x) (j : Nat) : w.cell? ⟨b, j, none⟩ = x.cells[j]? := by
  unfold BoxI at h
  simp [World.cell?, h]
end
theorem DeskX.atA {w : World} {B dk n c : Nat} {aa : Option Addr} {vc vh : Value} {l : List EdV} {cs : List Nat} {hs : List ItV} (h : DeskX w B dk (.slice aa n c) vc vh l cs hs) {i : Nat} {q : EdV} (hi : l[i]? = some q) : ∃ g, aa = some ⟨g, 0, none⟩ ∧ ∀ j, j < 3 → w.cell? ⟨g, i * 3 + j, none⟩ = q.cells[j]? := by
  have hlt := (List.getElem?_eq_some_iff.1 hi).1
  have ho := h.oa
  rcases ho.2 with ⟨e, _⟩ | ⟨g, cap, cur, e, _⟩
  · injection e with _ e2
    have := own_k ho
    omega
  · injection e with e1 e2 e3
    subst e1
    refine ⟨g, rfl, fun j hj => ?_⟩
    obtain rfl : n = l.length := own_k ho
    rw [ho.cellAt (j := i * 3 + j) (by omega)]
    exact edcells_at l i j q hi hj
/-- What Take's outer loop leaves. -/
def FinT (w : World) (B dk : Nat) (va vc : Value) (l : List EdV) (cs : List Nat) (x : ItV) (vo : Value) (w' : World) : Prop :=
  ∃ va' vc', DeskX w' B dk va' vc' (.slice none 0 0) (l ++ [takeV l x]) (cs ++ [x.x.c]) [] ∧
    w'.ownsRow w.heap.size 45 3 vo 1 (takeV l x).cells ∧ Off vo (dkF dk va' vc' (.slice none 0 0)) ∧ DStep (dkF dk va vc (.slice none 0 0)) (dkF dk va' vc' (.slice none 0 0)) w w'
/-- What Take leaves. -/
def TakePost (w : World) (B dk : Nat) (va vc : Value) (l : List EdV) (cs : List Nat) (x : ItV) (en : Ending) (w' : World) : Prop :=
  ∃ va' vc' vo, en = .returned (.tuple #[vo, .int .i64 0]) ∧ DeskX w' B dk va' vc' (.slice none 0 0) (l ++ [takeV l x]) (cs ++ [x.x.c]) [] ∧
    w'.ownsRow w.heap.size 45 3 vo 1 (takeV l x).cells ∧ Off vo (dkF dk va' vc' (.slice none 0 0)) ∧ DStep (dkF dk va vc (.slice none 0 0)) (dkF dk va' vc' (.slice none 0 0)) w w'
set_option maxRecDepth 20000 in
set_option maxHeartbeats 4000000 in
theorem take_any (w : World) {B dk : Nat} {va vc : Value} {l : List EdV} {cs : List Nat} (h : DeskX w B dk va vc (.slice none 0 0) l cs []) (x : ItV) (hn : x.x.n = cntN cs x.x.c) (hb : x.x.b ≤ l.length) (hc : x.x.c ≤ 1000) (hl : l.length ≤ 1000) (hcs : cs.length ≤ 1000)
    (hs : ∀ y ∈ x.x.e.s, 0 ≤ y ∧ y ≤ 1000) (hsl : x.x.e.s.length ≤ 1000) (hr : Rv w x.ed.ins x.x.e.s.length (x.x.e.s.map (Value.int .i64)))
    (ho : ∀ o ∈ l, SmE o.e) (hm : ∀ k, x.x.b + k ≤ l.length → InT 1000 (((l.drop x.x.b).take k).foldl EdV.mv x.ed).e) :
    Calls Try.prog 16 #[.pointer (some ⟨dk, 0, none⟩), x.val] w (TakePost w B dk va vc l cs x) := by
  have hm0 : SmE x.x.e := ⟨by have := hm 0 hb; simpa [ItV.ed] using this, hsl⟩
  have hfm := fun W (h : Rv W x.ed.ins x.x.e.s.length (x.x.e.s.map (Value.int .i64))) => formed_any x.ed W hm0 h hs
  have hbox : ∀ W : World, BoxI (W.alloc (.cells x.cells.toArray 47)) W.heap.size x := fun W => World.alloc_heap_new W _
  have B0 := (Below.refl w.heap.size w).alloc (Nat.le_refl _) (.cells x.cells.toArray 47)
  have X0 := hbox w
  have H0 := h.later B0
  have hr0 := hr.below B0
  obtain ⟨ka, aa, ca, rfl⟩ := own_shape h.oa
  obtain rfl : ka = l.length := own_k h.oa
  obtain ⟨kc, ac, cc, rfl⟩ := own_shape h.oc
  obtain rfl : kc = cs.length := own_k h.oc
  have HM := Bx.mk hm
  have HO := Bx.mk ho
  have HN := Bx.mk hn
  have HS := Bx.mk hs
  have HH := Bx.mk h
  have HF := Bx.mk hfm
  have HBOX := Bx.mk hbox
  clear hm ho hn hs h hfm hbox hm0
  obtain ⟨⟨c, n, b, ⟨a, d, s⟩⟩, ao, ca2⟩ := x
  simp only at hb hc hsl hr0
  change Calls _ _ #[_, .agg #[.int .i64 (c : Int), .int .i64 (n : Int), .int .i64 (b : Int), .int .i64 a, .int .i64 d, .slice ao s.length ca2]] _ _
  change BoxI (w.alloc (.cells #[.int .i64 (c : Int), .int .i64 (n : Int), .int .i64 (b : Int), .int .i64 a, .int .i64 d, .slice ao s.length ca2] 47)) w.heap.size _ at X0
  have HF1 : Bx (∀ W : World, Rv W (.slice ao s.length ca2) s.length (s.map (Value.int .i64)) → Calls Try.prog 52 #[.agg #[.int .i64 a, .int .i64 d, .slice ao s.length ca2]] W fun e w' => e = .returned (.bool true) ∧ Below W.heap.size W w') := ⟨HF.out⟩
  clear HF
  change Rv _ (.slice ao s.length ca2) _ _ at hr0
  have hn' : n = cntN cs c := HN.out
  have HN' := Bx.mk hn'
  have hnl : n ≤ cs.length := by rw [hn']; exact cntN_le cs c
  have lt0 : w.heap.size < (w.alloc (.cells #[.int .i64 (c : Int), .int .i64 (n : Int), .int .i64 (b : Int), .int .i64 a, .int .i64 d, .slice ao s.length ca2] 47)).heap.size := by simp
  clear hn' HN
  go_enter Try.func16, Try.ntmps16
  go_upto_region 1 with fail
  change Below _ _ (w.alloc (.cells #[.int .i64 (c : Int), .int .i64 (n : Int), .int .i64 (b : Int), .int .i64 a, .int .i64 d, .slice ao s.length ca2] 47)) at B0
  change DeskX (w.alloc (.cells #[.int .i64 (c : Int), .int .i64 (n : Int), .int .i64 (b : Int), .int .i64 a, .int .i64 d, .slice ao s.length ca2] 47)) _ _ _ _ _ _ _ _ at H0
  change Rv (w.alloc (.cells #[.int .i64 (c : Int), .int .i64 (n : Int), .int .i64 (b : Int), .int .i64 a, .int .i64 d, .slice ao s.length ca2] 47)) _ _ _ at hr0
  generalize w.alloc (.cells #[.int .i64 (c : Int), .int .i64 (n : Int), .int .i64 (b : Int), .int .i64 a, .int .i64 d, .slice ao s.length ca2] 47) = w0 at B0 X0 H0 hr0 lt0 ⊢
  have x3 : w0.cell? ⟨w.heap.size, 3, none⟩ = some (.int .i64 a) := X0.at 3
  have x4 : w0.cell? ⟨w.heap.size, 4, none⟩ = some (.int .i64 d) := X0.at 4
  have x5 : w0.cell? ⟨w.heap.size, 5, none⟩ = some (.slice ao s.length ca2) := X0.at 5
  go_wp2_with fail
  refine (HF1.out _ hr0).mono ?_
  rintro e w1 ⟨rfl, B1⟩
  have X1 := X0.later B1
  have H1 := H0.later B1
  have B1 := bel B0 B1
  clear x3 x4 x5 X0 H0 B0 HF1 hr0 lt0
  have x0 : w1.cell? ⟨w.heap.size, 0, none⟩ = some (.int .i64 (c : Int)) := X1.at 0
  have x1 : w1.cell? ⟨w.heap.size, 1, none⟩ = some (.int .i64 (n : Int)) := X1.at 1
  have x2 : w1.cell? ⟨w.heap.size, 2, none⟩ = some (.int .i64 (b : Int)) := X1.at 2
  go_upto_region 4 with fail
  have hq : ∀ W : World, (∃ k, W = w1.drewN k) → Calls Try.prog 49 #[.pointer (some ⟨dk, 0, none⟩), .int .i64 (c : Int)] W fun e w' => e = .returned (.int .i64 (n : Int)) ∧ w' = W := fun W hW => by
    obtain ⟨k, rfl⟩ := hW
    rw [HN'.out]
    exact next_any _ (H1.later (belD (Below.refl _ _) k)) c hc hcs
  have HQ := Bx.mk hq
  clear hq
  go_quiet ((go_at_call 49; exact Calls.quiet_of_same (HQ.out _ ⟨_, rfl⟩)))
  have X2 := X1.later (belD (Below.refl _ _) nq)
  have H2 := H1.later (belD (Below.refl _ _) nq)
  have B2 := belD B1 nq
  generalize w1.drewN nq = w2 at X2 H2 B2 ⊢
  clear x0 x1 x2 X1 H1 B1 HQ
  have d2 := H2.c2
  go_wp2_with fail
  go_loopw [7] (fun iv wr => iv = .int .i64 0 ∧ w2 = wr) (fun _ _ => 0)
  case atStart => exact ⟨rfl, rfl⟩
  case round =>
    obtain ⟨rfl, rfl⟩ := hrel
    have d0 := H2.c0
    go_upto_region 13 with fail
    go_cut [] from 103 to 112 (fun wx => ∃ vh, DeskX wx B dk (.slice aa l.length ca) (.slice ac cs.length cc) vh l cs [⟨⟨c, n, b, ⟨a, d, s⟩⟩, ao, ca2⟩] ∧ BoxI wx w.heap.size ⟨⟨c, n, b, ⟨a, d, s⟩⟩, ao, ca2⟩ ∧ DStep (dkF dk (.slice aa l.length ca) (.slice ac cs.length cc) (.slice none 0 0)) (dkF dk (.slice aa l.length ca) (.slice ac cs.length cc) vh) w wx)
    case first =>
      have BD := (Below.refl w2.heap.size w2).drew
      have X3 := X2.later BD
      have H3 := H2.later BD
      have S3 := DStep.ofBelow (dkF dk (.slice aa l.length ca) (.slice ac cs.length cc) (.slice none 0 0)) (B2.drew)
      have x0 : w2.drew.cell? ⟨w.heap.size, 0, none⟩ = some (.int .i64 (c : Int)) := X3.at 0
      have x1 : w2.drew.cell? ⟨w.heap.size, 1, none⟩ = some (.int .i64 (n : Int)) := X3.at 1
      have x2 : w2.drew.cell? ⟨w.heap.size, 2, none⟩ = some (.int .i64 (b : Int)) := X3.at 2
      have x3 : w2.drew.cell? ⟨w.heap.size, 3, none⟩ = some (.int .i64 a) := X3.at 3
      have x4 : w2.drew.cell? ⟨w.heap.size, 4, none⟩ = some (.int .i64 d) := X3.at 4
      have x5 : w2.drew.cell? ⟨w.heap.size, 5, none⟩ = some (.slice ao s.length ca2) := X3.at 5
      have d2 := H3.c2
      have s0 := And.intro x0 (And.intro x1 (And.intro x2 (And.intro x3 (And.intro x4 x5))))
      clear x0 x1 x2 x3 x4 x5 BD X2 H2 B2 d0
      refine wp_region_held_drew (S := fun W => W.cell? ⟨w.heap.size, 0, none⟩ = some (.int .i64 (c : Int)) ∧ W.cell? ⟨w.heap.size, 1, none⟩ = some (.int .i64 (n : Int)) ∧ W.cell? ⟨w.heap.size, 2, none⟩ = some (.int .i64 (b : Int)) ∧ W.cell? ⟨w.heap.size, 3, none⟩ = some (.int .i64 a) ∧ W.cell? ⟨w.heap.size, 4, none⟩ = some (.int .i64 d) ∧ W.cell? ⟨w.heap.size, 5, none⟩ = some (.slice ao s.length ca2)) (by kernel_rfl) s0 (fun _ => ?_)
      refine wpAnyH_do 0 103 rfl rfl (by kernel_rfl) (by kernel_rfl) (by kernel_rfl) (fun _ _ _ _ _ h => h) (by kernel_rfl) (fun W hS => by (obtain ⟨s1, s2, s3, s4, s5, s6⟩ := hS); go_simp; try with_reducible rfl) s0 ?_
      simp only [List.setIfInBounds_toArray, List.set_cons_succ, List.set_cons_zero]
      refine wpAnyH_do 1 104 rfl rfl (by kernel_rfl) (by kernel_rfl) (by kernel_rfl) (fun _ _ _ _ _ h => h) (by kernel_rfl) (fun W hS => by (obtain ⟨s1, s2, s3, s4, s5, s6⟩ := hS); go_simp; try with_reducible rfl) s0 ?_
      simp only [List.setIfInBounds_toArray, List.set_cons_succ, List.set_cons_zero]
      refine wpAnyH_do 2 105 rfl rfl (by kernel_rfl) (by kernel_rfl) (by kernel_rfl) (fun _ _ _ _ _ h => h) (by kernel_rfl) (fun W hS => by (obtain ⟨s1, s2, s3, s4, s5, s6⟩ := hS); go_simp; try with_reducible rfl) s0 ?_
      simp only [List.setIfInBounds_toArray, List.set_cons_succ, List.set_cons_zero]
      refine wpAnyH_do 3 106 rfl rfl (by kernel_rfl) (by kernel_rfl) (by kernel_rfl) (fun _ _ _ _ _ h => h) (by kernel_rfl) (fun W hS => by (obtain ⟨s1, s2, s3, s4, s5, s6⟩ := hS); go_simp; try with_reducible rfl) s0 ?_
      simp only [List.setIfInBounds_toArray, List.set_cons_succ, List.set_cons_zero]
      refine wpAnyH_do 5 108 rfl rfl (by kernel_rfl) (by kernel_rfl) (by kernel_rfl) (fun _ _ _ _ _ h => h) (by kernel_rfl) (fun W hS => by (obtain ⟨s1, s2, s3, s4, s5, s6⟩ := hS); go_simp; try with_reducible rfl) s0 ?_
      simp only [List.setIfInBounds_toArray, List.set_cons_succ, List.set_cons_zero]
      generalize w2.drew = w3 at *
      have B4 := (Below.refl w3.heap.size w3).alloc (Nat.le_refl _) (.cells #[.int .i64 (c : Int), .int .i64 (n : Int), .int .i64 (b : Int), .int .i64 a, .int .i64 d, .slice ao s.length ca2] 47)
      have X4 := X3.later B4
      have s1 : (w3.alloc (.cells #[.int .i64 (c : Int), .int .i64 (n : Int), .int .i64 (b : Int), .int .i64 a, .int .i64 d, .slice ao s.length ca2] 47)).cell? ⟨w.heap.size, 0, none⟩ = some (.int .i64 (c : Int)) ∧ (w3.alloc (.cells #[.int .i64 (c : Int), .int .i64 (n : Int), .int .i64 (b : Int), .int .i64 a, .int .i64 d, .slice ao s.length ca2] 47)).cell? ⟨w.heap.size, 1, none⟩ = some (.int .i64 (n : Int)) ∧ (w3.alloc (.cells #[.int .i64 (c : Int), .int .i64 (n : Int), .int .i64 (b : Int), .int .i64 a, .int .i64 d, .slice ao s.length ca2] 47)).cell? ⟨w.heap.size, 2, none⟩ = some (.int .i64 (b : Int)) ∧ (w3.alloc (.cells #[.int .i64 (c : Int), .int .i64 (n : Int), .int .i64 (b : Int), .int .i64 a, .int .i64 d, .slice ao s.length ca2] 47)).cell? ⟨w.heap.size, 3, none⟩ = some (.int .i64 a) ∧ (w3.alloc (.cells #[.int .i64 (c : Int), .int .i64 (n : Int), .int .i64 (b : Int), .int .i64 a, .int .i64 d, .slice ao s.length ca2] 47)).cell? ⟨w.heap.size, 4, none⟩ = some (.int .i64 d) ∧ (w3.alloc (.cells #[.int .i64 (c : Int), .int .i64 (n : Int), .int .i64 (b : Int), .int .i64 a, .int .i64 d, .slice ao s.length ca2] 47)).cell? ⟨w.heap.size, 5, none⟩ = some (.slice ao s.length ca2) := ⟨X4.at 0, X4.at 1, X4.at 2, X4.at 3, X4.at 4, X4.at 5⟩
      have d24 := (H3.later B4).c2
      refine wpAnyH_two 4 6 rfl rfl (by kernel_rfl) (by kernel_rfl) (by kernel_rfl) (fun K hK => ?_) (fun K hK => ?_)
      go_simp
      refine hK _ _ s0 ?_
      clear hK
      refine wpAnyH_one 6 rfl (by kernel_rfl) (by kernel_rfl) (fun K hK => ?_)
      go_simp
      refine hK _ _ s1 ?_
      clear hK
      rotate_left
      go_simp
      refine hK _ _ s1 ?_
      clear hK
      refine wpAnyH_one 4 rfl (by kernel_rfl) (by kernel_rfl) (fun K hK => ?_)
      go_simp
      refine hK _ _ s1 ?_
      clear hK
      all_goals
        refine wpAnyH_one 7 rfl (by kernel_rfl) (by kernel_rfl) (fun K hK => ?_)
        have hone := Rv.lit w3 [.int .i64 (c : Int), .int .i64 (n : Int), .int .i64 (b : Int), .int .i64 a, .int .i64 d, .slice ao s.length ca2] 47 1 (by decide)
        refine opApp _ _ rfl Try.elIt B (.slice none 0 0) 0 [] rfl (World.ownsRow_nil _ _ _ _) (.slice (some ⟨w3.heap.size, 0, none⟩) 1 1) 1 [.int .i64 (c : Int), .int .i64 (n : Int), .int .i64 (b : Int), .int .i64 a, .int .i64 d, .slice ao s.length ca2] rfl hone rfl (fun u hu => itcells_one u ⟨⟨c, n, b, ⟨a, d, s⟩⟩, ao, ca2⟩ hu) (by omega) (by have := H3.lo; have := H3.lt; simp; omega) ?_
        intro v5 w5 O5 g5 sn5
        obtain ⟨k5, a5, c5, rfl⟩ := own_shape O5
        obtain ⟨H6, S6⟩ := H3.setH (hs' := [⟨⟨c, n, b, ⟨a, d, s⟩⟩, ao, ca2⟩]) (DStep.grownA _ g5 sn5) O5
        have hd5 := (g5.block dk (by have := H3.lt; simp; omega) (by simp [Value.ownBlock])).trans ((H3.later B4).blk)
        have X5 := X4.kept (g5.block w.heap.size X4.lt (by simp [Value.ownBlock]))
        have s2 : w5.cell? ⟨w.heap.size, 0, none⟩ = some (.int .i64 (c : Int)) ∧ w5.cell? ⟨w.heap.size, 1, none⟩ = some (.int .i64 (n : Int)) ∧ w5.cell? ⟨w.heap.size, 2, none⟩ = some (.int .i64 (b : Int)) ∧ w5.cell? ⟨w.heap.size, 3, none⟩ = some (.int .i64 a) ∧ w5.cell? ⟨w.heap.size, 4, none⟩ = some (.int .i64 d) ∧ w5.cell? ⟨w.heap.size, 5, none⟩ = some (.slice ao s.length ca2) := ⟨X5.at 0, X5.at 1, X5.at 2, X5.at 3, X5.at 4, X5.at 5⟩
        have X6 := X5.kept (w' := w5.setCell ⟨dk, 2, none⟩ (.slice a5 k5 c5)) (Below.heap_setCell _ _ _ _ (by have := HH.out.lt; show w.heap.size ≠ dk; omega))
        have s3 : (w5.setCell ⟨dk, 2, none⟩ (.slice a5 k5 c5)).cell? ⟨w.heap.size, 0, none⟩ = some (.int .i64 (c : Int)) ∧ (w5.setCell ⟨dk, 2, none⟩ (.slice a5 k5 c5)).cell? ⟨w.heap.size, 1, none⟩ = some (.int .i64 (n : Int)) ∧ (w5.setCell ⟨dk, 2, none⟩ (.slice a5 k5 c5)).cell? ⟨w.heap.size, 2, none⟩ = some (.int .i64 (b : Int)) ∧ (w5.setCell ⟨dk, 2, none⟩ (.slice a5 k5 c5)).cell? ⟨w.heap.size, 3, none⟩ = some (.int .i64 a) ∧ (w5.setCell ⟨dk, 2, none⟩ (.slice a5 k5 c5)).cell? ⟨w.heap.size, 4, none⟩ = some (.int .i64 d) ∧ (w5.setCell ⟨dk, 2, none⟩ (.slice a5 k5 c5)).cell? ⟨w.heap.size, 5, none⟩ = some (.slice ao s.length ca2) := ⟨X6.at 0, X6.at 1, X6.at 2, X6.at 3, X6.at 4, X6.at 5⟩
        have f5 : w5.frozen? ⟨dk, 2, none⟩ = false := by simp [World.frozen?, hd5]
        have e5 : w5.cell? ⟨dk, 2, none⟩ = some (.slice none 0 0) := by simp [World.cell?, hd5]
        refine hK _ _ s2 ?_
        clear hK
        simp only [Act.put, List.setIfInBounds_toArray]
        refine wpAnyH_do 8 111 rfl rfl (by kernel_rfl) (by kernel_rfl) (by kernel_rfl) (fun _ _ _ _ _ h => h) (by kernel_rfl) (fun W hS => by (obtain ⟨s1, s2, s3, s4, s5, s6⟩ := hS); go_simp; try with_reducible rfl) s2 ?_
        simp only [List.setIfInBounds_toArray, List.set_cons_succ, List.set_cons_zero]
        refine wpAnyH_do 9 112 rfl rfl (by kernel_rfl) (by kernel_rfl) (by kernel_rfl) (fun _ _ _ _ _ h => h) (by kernel_rfl) (fun W hS => by (obtain ⟨s1, s2, s3, s4, s5, s6⟩ := hS); go_simp; try with_reducible rfl) s2 ?_
        simp only [List.setIfInBounds_toArray, List.set_cons_succ, List.set_cons_zero]
        refine wpAnyH_one 10 rfl (by kernel_rfl) (by kernel_rfl) (fun K hK => ?_)
        go_simp
        refine hK _ _ s3 ?_
        clear hK
        refine wpAnyH_done (by kernel_rfl) ?_ _
        go_wp2_with fail
        go_meet
        exact ⟨_, H6, X6, S3.trans S6⟩
    case rest =>
    rename World => w3
    obtain ⟨vh, H3, X3, S3⟩ := hcut
    clear X2 H2 B2 d2 d0
    go_wp2_with fail
    refine (ready1_any _ H3 HN'.out hb hc hcs).mono ?_
    rintro e w4 ⟨rfl, B4⟩
    have H4 := H3.later B4
    have X4 := X3.later B4
    have S4 := S3.trans (DStep.ofBelow _ B4)
    obtain ⟨g, cap, rfl, hcell⟩ := H4.one
    have g0 : w4.cell? ⟨g, 0, none⟩ = some (.int .i64 (c : Int)) := hcell 0 (by omega)
    have g1 : w4.cell? ⟨g, 1, none⟩ = some (.int .i64 (n : Int)) := hcell 1 (by omega)
    have g2 : w4.cell? ⟨g, 2, none⟩ = some (.int .i64 (b : Int)) := hcell 2 (by omega)
    have g3 : w4.cell? ⟨g, 3, none⟩ = some (.int .i64 a) := hcell 3 (by omega)
    have g4 : w4.cell? ⟨g, 4, none⟩ = some (.int .i64 d) := hcell 4 (by omega)
    have g5 : w4.cell? ⟨g, 5, none⟩ = some (.slice ao s.length ca2) := hcell 5 (by omega)
    have hcap : cap ≤ maxLen := by
      obtain ⟨_, _, e, _, h, _⟩ := Rv.of_own H4.oh
      injection e with _ _ e3
      rw [e3]
      exact h
    have d2 := H4.c2
    have HS4 := Bx.mk S4
    clear H3 X3 S3 B4 hcell S4
    go_wp2_with fail
    go_loopw [8, 9] (fun ov iv wr => (ov = .slice none 0 0 ∧ iv = .int .i64 0 ∧ w4 = wr) ∨ (iv = .int .i64 (-1) ∧ FinT w B dk (.slice aa l.length ca) (.slice ac cs.length cc) l cs ⟨⟨c, n, b, ⟨a, d, s⟩⟩, ao, ca2⟩ ov wr)) (fun _ iv _ => (intOf iv + 1).toNat)
    case atStart => exact .inl ⟨rfl, rfl, rfl⟩
    case round =>
      rcases hrel with ⟨rfl, rfl, rfl⟩ | ⟨rfl, hfin⟩
      · go_wp2_with fail
        obtain ⟨G, hG⟩ : ∃ G, w4.heap.size = G := ⟨_, rfl⟩
        have BY := (Below.refl w4.heap.size w4).alloc (Nat.le_refl _) (.cells #[.int .i64 (c : Int), .int .i64 (n : Int), .int .i64 (b : Int), .int .i64 a, .int .i64 d, .slice ao s.length ca2] 47)
        have Y5 := HBOX.out w4
        change BoxI (w4.alloc (.cells #[.int .i64 (c : Int), .int .i64 (n : Int), .int .i64 (b : Int), .int .i64 a, .int .i64 d, .slice ao s.length ca2] 47)) _ _ at Y5
        have BE := BY.alloc (by simp) (.cells #[.int .i64 a, .int .i64 d, .slice ao s.length ca2] 45)
        have E5 := Box3.new (w4.alloc (.cells #[.int .i64 (c : Int), .int .i64 (n : Int), .int .i64 (b : Int), .int .i64 a, .int .i64 d, .slice ao s.length ca2] 47)) (.int .i64 a) (.int .i64 d) (.slice ao s.length ca2)
        have Y5 := Y5.later ((Below.refl _ _).alloc (Nat.le_refl _) (.cells #[.int .i64 a, .int .i64 d, .slice ao s.length ca2] 45))
        rw [World.size_alloc] at E5
        rw [hG] at Y5 E5 ⊢
        generalize (w4.alloc (.cells #[.int .i64 (c : Int), .int .i64 (n : Int), .int .i64 (b : Int), .int .i64 a, .int .i64 d, .slice ao s.length ca2] 47)).alloc (.cells #[.int .i64 a, .int .i64 d, .slice ao s.length ca2] 45) = w5 at *
        have H5 := H4.later BE
        have HG := Bx.mk hG
        clear BY g0 g1 g2 g3 g4 g5 hG d2
        obtain ⟨P, hP⟩ : ∃ P : Nat → EdV, ∀ k, P k = ((l.drop b).take k).foldl EdV.mv ⟨⟨a, d, s⟩, ao, ca2⟩ := ⟨_, fun _ => rfl⟩
        have hP0 : P 0 = ⟨⟨a, d, s⟩, ao, ca2⟩ := by rw [hP]; rfl
        have hPS : ∀ k (hk : b + k < l.length), P (k + 1) = (P k).mv l[b + k] := fun k hk => by
          rw [hP, hP, List.take_succ_eq_append_getElem (by rw [List.length_drop]; omega), List.foldl_append, List.getElem_drop]
          rfl
        have hPI : ∀ k, b + k ≤ l.length → InT 1000 (P k).e := fun k hk => by rw [hP]; exact HM.out k hk
        have hPE : P (l.length - b) = takeV l ⟨⟨c, n, b, ⟨a, d, s⟩⟩, ao, ca2⟩ := by
          rw [hP, List.take_of_length_le (by rw [List.length_drop]; omega)]
          rfl
        have hPN : ∀ k, (P k).ins = .slice ao s.length ca2 := fun k => by
          unfold EdV.ins
          rw [hP, (foldl_mv _ _).1, (foldl_mv _ _).2.1, (foldl_mv _ _).2.2, foldl_s]
        have hPV : ∀ k, (P k).val = .agg #[.int .i64 (P k).e.a, .int .i64 (P k).e.d, .slice ao s.length ca2] := fun k => by rw [← hPN k]; rfl
        have HPV := Bx.mk hPV
        have HP0 := Bx.mk hP0
        have HPS := Bx.mk hPS
        have HPI := Bx.mk hPI
        have HPE := Bx.mk hPE
        clear hP hP0 hPS hPI hPE hPN hPV HM
        go_loopw [12] (fun kv wr => ∃ k m : Nat, kv = .int .i64 (m : Int) ∧ m ≤ l.length ∧ Bx (m = b + k) ∧ Box3 wr (G + 1) (.int .i64 (P k).e.a) (.int .i64 (P k).e.d) (.slice ao s.length ca2) ∧ BoxI wr G ⟨⟨c, n, b, ⟨a, d, s⟩⟩, ao, ca2⟩ ∧ Below w4.heap.size w4 wr) (fun kv _ => l.length - (intOf kv).toNat)
        case atStart => exact ⟨0, b, rfl, hb, ⟨rfl⟩, by rw [HP0.out]; exact E5, Y5, BE⟩
        case round =>
          obtain ⟨k, m, rfl, hml, HMK, E6, Y6, B6⟩ := hrel
          rename World => w6
          have H6 := H4.later B6
          by_cases hlt : m < l.length
          · have hk1 : b + k < l.length := by have := HMK.out; omega
            obtain ⟨o, hox⟩ : ∃ o, l[m] = o := ⟨_, rfl⟩
            have ho1 : l[m]? = some o := by rw [List.getElem?_eq_getElem hlt, hox]
            have hSm := HO.out o (hox ▸ List.getElem_mem hlt)
            have hnx : P (k + 1) = (P k).mv o := by
              rw [HPS.out k hk1, ← hox]
              congr 2
              exact HMK.out.symm
            obtain ⟨ga, rfl, hga⟩ := H6.atA ho1
            obtain ⟨⟨oa, od, os⟩, oo, oc⟩ := o
            have HMV : Bx (∀ W : World, Calls Try.prog 54 #[.agg #[.int .i64 (P k).e.a, .int .i64 (P k).e.d, .slice ao s.length ca2], .agg #[.int .i64 oa, .int .i64 od, .slice oo os.length oc]] W fun e w' => e = .returned (.agg #[.int .i64 (P (k + 1)).e.a, .int .i64 (P (k + 1)).e.d, .slice ao s.length ca2]) ∧ Below W.heap.size W w') := ⟨fun W => by
              have := move_any (P k) ⟨⟨oa, od, os⟩, oo, oc⟩ W (HPI.out k (by omega)) hSm
              rw [← hnx, HPV.out, HPV.out] at this
              exact this⟩
            have o0 : w6.cell? ⟨ga, m * 3, none⟩ = some (.int .i64 oa) := hga 0 (by omega)
            have o1 : w6.cell? ⟨ga, m * 3 + 1, none⟩ = some (.int .i64 od) := hga 1 (by omega)
            have o2 : w6.cell? ⟨ga, m * 3 + 2, none⟩ = some (.slice oo os.length oc) := hga 2 (by omega)
            have d0 := H6.c0
            have hgl : ga < G := by rw [← HG.out]; exact (H4.oa.lt ga rfl).2
            have hdl : dk < G := by rw [← HG.out]; exact H4.lt
            clear hga hnx hSm ho1 hox
            go_upto_region 23 with fail
            have BD := (Below.refl w6.heap.size w6).drew
            have E7 := E6.kept (w' := w6.drew) rfl
            have Y7 := Y6.later BD
            have B7 := B6.drew
            have s0 : w6.drew.cell? ⟨dk, 0, none⟩ = some (.slice (some ⟨ga, 0, none⟩) l.length ca) ∧ w6.drew.cell? ⟨ga, m * 3, none⟩ = some (.int .i64 oa) ∧ w6.drew.cell? ⟨ga, m * 3 + 1, none⟩ = some (.int .i64 od) ∧ w6.drew.cell? ⟨ga, m * 3 + 2, none⟩ = some (.slice oo os.length oc) := ⟨d0, o0, o1, o2⟩
            have e0 := E7.k0
            have e1 := E7.k1
            have e2 := E7.k2
            clear E6 Y6 B6 H6 d0 o0 o1 o2 BD
            refine wp_region_held_drew (S := fun W => W.cell? ⟨dk, 0, none⟩ = some (.slice (some ⟨ga, 0, none⟩) l.length ca) ∧ W.cell? ⟨ga, m * 3, none⟩ = some (.int .i64 oa) ∧ W.cell? ⟨ga, m * 3 + 1, none⟩ = some (.int .i64 od) ∧ W.cell? ⟨ga, m * 3 + 2, none⟩ = some (.slice oo os.length oc)) (by kernel_rfl) s0 (fun _ => ?_)
            refine wpAnyH_do 1 140 rfl rfl (by kernel_rfl) (by kernel_rfl) (by kernel_rfl) (fun _ _ _ _ _ h => h) (by kernel_rfl) (fun W hS => by (obtain ⟨s1, s2, s3, s4⟩ := hS); go_simp; try with_reducible rfl) s0 ?_
            simp only [List.setIfInBounds_toArray, List.set_cons_succ, List.set_cons_zero]
            refine wpAnyH_do 2 141 rfl rfl (by kernel_rfl) (by kernel_rfl) (by kernel_rfl) (fun _ _ _ _ _ h => h) (by kernel_rfl) (fun W hS => by (obtain ⟨s1, s2, s3, s4⟩ := hS); go_simp; try with_reducible rfl) s0 ?_
            simp only [List.setIfInBounds_toArray, List.set_cons_succ, List.set_cons_zero]
            refine wpAnyH_do 3 142 rfl rfl (by kernel_rfl) (by kernel_rfl) (by kernel_rfl) (fun _ _ _ _ _ h => h) (by kernel_rfl) (fun W hS => by (obtain ⟨s1, s2, s3, s4⟩ := hS); go_simp; try with_reducible rfl) s0 ?_
            simp only [List.setIfInBounds_toArray, List.set_cons_succ, List.set_cons_zero]
            refine wpAnyH_do 4 143 rfl rfl (by kernel_rfl) (by kernel_rfl) (by kernel_rfl) (fun _ _ _ _ _ h => h) (by kernel_rfl) (fun W hS => by (obtain ⟨s1, s2, s3, s4⟩ := hS); go_simp; try with_reducible rfl) s0 ?_
            simp only [List.setIfInBounds_toArray, List.set_cons_succ, List.set_cons_zero]
            refine wpAnyH_do 5 144 rfl rfl (by kernel_rfl) (by kernel_rfl) (by kernel_rfl) (fun _ _ _ _ _ h => h) (by kernel_rfl) (fun W hS => by (obtain ⟨s1, s2, s3, s4⟩ := hS); go_simp; try with_reducible rfl) s0 ?_
            simp only [List.setIfInBounds_toArray, List.set_cons_succ, List.set_cons_zero]
            refine wpAnyH_do 6 145 rfl rfl (by kernel_rfl) (by kernel_rfl) (by kernel_rfl) (fun _ _ _ _ _ h => h) (by kernel_rfl) (fun W hS => by (obtain ⟨s1, s2, s3, s4⟩ := hS); go_simp; try with_reducible rfl) s0 ?_
            simp only [List.setIfInBounds_toArray, List.set_cons_succ, List.set_cons_zero]
            refine wpAnyH_do 7 146 rfl rfl (by kernel_rfl) (by kernel_rfl) (by kernel_rfl) (fun _ _ _ _ _ h => h) (by kernel_rfl) (fun W hS => by (obtain ⟨s1, s2, s3, s4⟩ := hS); go_simp; try with_reducible rfl) s0 ?_
            simp only [List.setIfInBounds_toArray, List.set_cons_succ, List.set_cons_zero]
            generalize w6.drew = w7 at *
            refine wpAnyH_one 0 rfl (by kernel_rfl) (by kernel_rfl) (fun K hK => ?_)
            go_simp
            refine hK _ _ s0 ?_
            clear hK
            refine wpAnyH_one 8 rfl (by kernel_rfl) (by kernel_rfl) (fun K hK => ?_)
            go_simp
            refine (HMV.out _).mono ?_
            rintro e w8 ⟨rfl, B8⟩
            have E8 := E7.kept (B8.block _ E7.lt)
            have Y8 := Y7.later B8
            have C8 := B7.trans (B8.mono B7.size)
            have s8 : w8.cell? ⟨dk, 0, none⟩ = some (.slice (some ⟨ga, 0, none⟩) l.length ca) ∧ w8.cell? ⟨ga, m * 3, none⟩ = some (.int .i64 oa) ∧ w8.cell? ⟨ga, m * 3 + 1, none⟩ = some (.int .i64 od) ∧ w8.cell? ⟨ga, m * 3 + 2, none⟩ = some (.slice oo os.length oc) := ⟨(B8.cell (World.block_lt_of_cell? _ _ s0.1)).trans s0.1, (B8.cell (World.block_lt_of_cell? _ _ s0.2.1)).trans s0.2.1, (B8.cell (World.block_lt_of_cell? _ _ s0.2.2.1)).trans s0.2.2.1, (B8.cell (World.block_lt_of_cell? _ _ s0.2.2.2)).trans s0.2.2.2⟩
            refine hK _ _ s8 ?_
            clear hK
            have e0 := E8.k0
            have e1 := E8.k1
            have e2 := E8.k2
            have ef := E8.fr
            have s9 : (threeV w8 (G + 1) (.int .i64 (P (k + 1)).e.a) (.int .i64 (P (k + 1)).e.d) (.slice ao s.length ca2)).cell? ⟨dk, 0, none⟩ = some (.slice (some ⟨ga, 0, none⟩) l.length ca) ∧ (threeV w8 (G + 1) (.int .i64 (P (k + 1)).e.a) (.int .i64 (P (k + 1)).e.d) (.slice ao s.length ca2)).cell? ⟨ga, m * 3, none⟩ = some (.int .i64 oa) ∧ (threeV w8 (G + 1) (.int .i64 (P (k + 1)).e.a) (.int .i64 (P (k + 1)).e.d) (.slice ao s.length ca2)).cell? ⟨ga, m * 3 + 1, none⟩ = some (.int .i64 od) ∧ (threeV w8 (G + 1) (.int .i64 (P (k + 1)).e.a) (.int .i64 (P (k + 1)).e.d) (.slice ao s.length ca2)).cell? ⟨ga, m * 3 + 2, none⟩ = some (.slice oo os.length oc) :=
              ⟨(threeV_cell (by omega) _ _ _ _).trans s8.1, (threeV_cell (by omega) _ _ _ _).trans s8.2.1, (threeV_cell (by omega) _ _ _ _).trans s8.2.2.1, (threeV_cell (by omega) _ _ _ _).trans s8.2.2.2⟩
            have E9 := threeV_box E8 (.int .i64 (P (k + 1)).e.a) (.int .i64 (P (k + 1)).e.d) (.slice ao s.length ca2)
            have Y9 := Y8.kept (threeV_far (b := G + 1) (k := G) (by omega) (.int .i64 (P (k + 1)).e.a) (.int .i64 (P (k + 1)).e.d) (.slice ao s.length ca2))
            have C9 := threeV_below (b := G + 1) C8 (by rw [HG.out]; omega) (.int .i64 (P (k + 1)).e.a) (.int .i64 (P (k + 1)).e.d) (.slice ao s.length ca2)
            refine wpAnyH_one 9 rfl (by kernel_rfl) (by kernel_rfl) (fun K hK => ?_)
            go_simp
            refine hK _ _ s9 ?_
            clear hK
            unfold threeV at E9 Y9 C9
            refine wpAnyH_done (by kernel_rfl) ?_ _
            go_wp2_with fail
            go_roundw
            case rel => exact ⟨k + 1, m + 1, by go_num, by omega, ⟨by have := HMK.out; omega⟩, E9, Y9, C9⟩
            case measure => simp [intOf]; omega
          · obtain rfl : m = l.length := by omega
            have hk : P k = takeV l ⟨⟨c, n, b, ⟨a, d, s⟩⟩, ao, ca2⟩ := by
              rw [← HPE.out]
              congr 1
              have := HMK.out
              omega
            have HK := Bx.mk hk
            have hBs : B ≤ w6.heap.size := by have := H6.lo; have := H6.lt; omega
            have R0 : ∀ W : World, Rv W (.slice (some ⟨g, 0, none⟩) 0 cap) 0 [] := fun W => ⟨_, cap, rfl, Nat.zero_le _, hcap, (fun h => by cases h), .inl rfl⟩
            have d2 := H6.c2
            have d0 := H6.c0
            clear hk
            go_wp2_with (at_builtin; refine wpList_app _ rfl _ _ rfl Try.elIt B (.slice none 0 0) 0 [] rfl (World.ownsRow_nil _ _ _ _) (.slice (some ⟨g, 0, none⟩) 0 cap) 0 [] rfl (R0 _) rfl (fun u hu => by cases hu) (by omega) hBs ?_; intro v7 w7 O7 g7 e7; refine later ?_)
            obtain rfl : v7 = .slice none 0 0 := by simpa using e7
            have B7 := (Below.refl w6.heap.size w6).grown g7 (Nat.le_refl _) (fun g e => by cases e)
            have H7 := H6.later B7
            have E7 := E6.kept (B7.block _ E6.lt)
            have Y7 := Y6.later B7
            have C7 := B6.trans (B7.mono B6.size)
            clear O7 g7 e7 H6 E6 Y6 B6 B7 d2 d0
            have d2 := H7.c2
            refine Later.in ?_
            go_upto_region 26 with fail
            have hBs : B ≤ w7.heap.size := by have := H7.lo; have := H7.lt; omega
            have hcap1 : 1 ≤ cap := by
              obtain ⟨_, _, e, h, _⟩ := Rv.of_own H7.oh
              injection e with _ _ e3
              rw [e3]
              exact h
            have hGl : G + 1 < w7.heap.size := E7.lt
            have hdl : dk < G := by rw [← HG.out]; exact H4.lt
            go_cut [] from 156 to 167 (fun wx => DeskX wx B dk (.slice aa l.length ca) (.slice ac cs.length cc) (.slice none 0 0) l cs [] ∧ Box3 wx (G + 1) (.int .i64 (P k).e.a) (.int .i64 (P k).e.d) (.slice ao s.length ca2) ∧ BoxI wx G ⟨⟨c, n, b, ⟨a, d, s⟩⟩, ao, ca2⟩ ∧ DStep (dkF dk (.slice aa l.length ca) (.slice ac cs.length cc) (.slice none 0 0)) (dkF dk (.slice aa l.length ca) (.slice ac cs.length cc) (.slice none 0 0)) w wx ∧ G + 1 < wx.heap.size)
            case first =>
              have f2 := H7.fz 2
              have hend : ∀ w8 : World, Below w7.heap.size w7 w8 → DeskX (w8.setCell ⟨dk, 2, none⟩ (.slice none 0 0)) B dk (.slice aa l.length ca) (.slice ac cs.length cc) (.slice none 0 0) l cs [] ∧ Box3 (w8.setCell ⟨dk, 2, none⟩ (.slice none 0 0)) (G + 1) (.int .i64 (P k).e.a) (.int .i64 (P k).e.d) (.slice ao s.length ca2) ∧ BoxI (w8.setCell ⟨dk, 2, none⟩ (.slice none 0 0)) G ⟨⟨c, n, b, ⟨a, d, s⟩⟩, ao, ca2⟩ ∧ DStep (dkF dk (.slice aa l.length ca) (.slice ac cs.length cc) (.slice none 0 0)) (dkF dk (.slice aa l.length ca) (.slice ac cs.length cc) (.slice none 0 0)) w (w8.setCell ⟨dk, 2, none⟩ (.slice none 0 0)) ∧ G + 1 < (w8.setCell ⟨dk, 2, none⟩ (.slice none 0 0)).heap.size := fun w8 B8 => by
                have H8 := H7.later B8
                obtain ⟨H9, S9⟩ := H8.setH (hs' := []) (DStep.toNil _ w8) (World.ownsRow_nil _ _ _ _)
                have E8 := E7.kept (B8.block _ E7.lt)
                have Y8 := Y7.later B8
                refine ⟨H9, E8.kept (Below.heap_setCell _ _ _ _ (by show G + 1 ≠ dk; omega)), Y8.kept (Below.heap_setCell _ _ _ _ (by show G ≠ dk; omega)), ((HS4.out.trans (DStep.ofBelow _ C7)).trans (DStep.ofBelow _ B8)).trans S9, by rw [World.size_setCell]; have := B8.size; omega⟩
              have HEND := Bx.mk hend
              have hdk : ∀ w8 : World, Below w7.heap.size w7 w8 → w8.frozen? ⟨dk, 2, none⟩ = false ∧ w8.cell? ⟨dk, 2, none⟩ = some (.slice (some ⟨g, 0, none⟩) 1 cap) := fun w8 B8 => ⟨(H7.later B8).fz 2, (H7.later B8).c2⟩
              have HDK := Bx.mk hdk
              clear hend hdk
              by_cases hc1 : cap = 1
              · subst hc1
                have R1 : Rv w7 (.slice (some ⟨g, 0, none⟩) 0 0) 0 [] := ⟨_, 0, rfl, Nat.zero_le _, Nat.zero_le _, (fun h => by cases h), .inl rfl⟩
                go_wp2_with (at_builtin; refine wpList_app _ rfl _ _ rfl Try.elIt B (.slice none 0 0) 0 [] rfl (World.ownsRow_nil _ _ _ _) (.slice (some ⟨g, 0, none⟩) 0 0) 0 [] rfl R1 rfl (fun u hu => by cases hu) (by omega) hBs ?_; intro v8 w8 O8 g8 e8; refine later ?_)
                obtain rfl : v8 = .slice none 0 0 := by simpa using e8
                have B8 := (Below.refl w7.heap.size w7).grown g8 (Nat.le_refl _) (fun g e => by cases e)
                obtain ⟨f8, d8⟩ := HDK.out _ B8
                have HFF := Bx.mk (HEND.out _ B8)
                clear O8 g8 e8 d2 f2 HEND HDK
                refine Later.in ?_
                go_wp2_with fail
                go_meet
                exact HFF.out
              · have R1 : Rv w7 (.slice (some ⟨g, 6, none⟩) 0 (cap - 1)) 0 [] := ⟨_, _, rfl, Nat.zero_le _, by omega, (fun h => by cases h), .inl rfl⟩
                go_wp2_with (at_builtin; refine wpList_app _ rfl _ _ rfl Try.elIt B (.slice none 0 0) 0 [] rfl (World.ownsRow_nil _ _ _ _) (.slice (some ⟨g, 6, none⟩) 0 (cap - 1)) 0 [] rfl R1 rfl (fun u hu => by cases hu) (by omega) hBs ?_; intro v8 w8 O8 g8 e8; refine later ?_)
                obtain rfl : v8 = .slice none 0 0 := by simpa using e8
                have B8 := (Below.refl w7.heap.size w7).grown g8 (Nat.le_refl _) (fun g e => by cases e)
                obtain ⟨f8, d8⟩ := HDK.out _ B8
                have HFF := Bx.mk (HEND.out _ B8)
                clear O8 g8 e8 d2 f2 HEND HDK
                refine Later.in ?_
                go_wp2_with fail
                go_meet
                exact HFF.out
            case rest =>
            rename World => w8
            obtain ⟨H8, E8, Y8, S8, hG8⟩ := hcut
            have hyc : (takeV l ⟨⟨c, n, b, ⟨a, d, s⟩⟩, ao, ca2⟩).cells = [.int .i64 (P k).e.a, .int .i64 (P k).e.d, .slice ao s.length ca2] := by
              unfold EdV.cells
              rw [takeV_ins, ← HK.out]
              rfl
            have HYC := Bx.mk hyc
            clear H7 E7 Y7 C7 d2 hBs hcap1 hGl hyc R0
            go_upto_region 27 with fail
            go_cut [] from 168 to 177 (fun wx => ∃ va', DeskX wx B dk va' (.slice ac cs.length cc) (.slice none 0 0) (l ++ [takeV l ⟨⟨c, n, b, ⟨a, d, s⟩⟩, ao, ca2⟩]) cs [] ∧ Box3 wx (G + 1) (.int .i64 (P k).e.a) (.int .i64 (P k).e.d) (.slice ao s.length ca2) ∧ BoxI wx G ⟨⟨c, n, b, ⟨a, d, s⟩⟩, ao, ca2⟩ ∧ DStep (dkF dk (.slice aa l.length ca) (.slice ac cs.length cc) (.slice none 0 0)) (dkF dk va' (.slice ac cs.length cc) (.slice none 0 0)) w wx ∧ G + 1 < wx.heap.size)
            case first =>
              have BD := (Below.refl w8.heap.size w8).drew
              have H9 := H8.later BD
              have E9 := E8.kept (w' := w8.drew) rfl
              have Y9 := Y8.later BD
              have S9 := S8.trans (DStep.ofBelow _ BD)
              have hG9 : G + 1 < w8.drew.heap.size := hG8
              have s0 : w8.drew.cell? ⟨G + 1, 0, none⟩ = some (.int .i64 (P k).e.a) ∧ w8.drew.cell? ⟨G + 1, 1, none⟩ = some (.int .i64 (P k).e.d) ∧ w8.drew.cell? ⟨G + 1, 2, none⟩ = some (.slice ao s.length ca2) := ⟨E9.k0, E9.k1, E9.k2⟩
              have d0 := H9.c0
              clear BD H8 E8 Y8 S8 hG8
              refine wp_region_held_drew (S := fun W => W.cell? ⟨G + 1, 0, none⟩ = some (.int .i64 (P k).e.a) ∧ W.cell? ⟨G + 1, 1, none⟩ = some (.int .i64 (P k).e.d) ∧ W.cell? ⟨G + 1, 2, none⟩ = some (.slice ao s.length ca2)) (by kernel_rfl) s0 (fun _ => ?_)
              refine wpAnyH_do 0 168 rfl rfl (by kernel_rfl) (by kernel_rfl) (by kernel_rfl) (fun _ _ _ _ _ h => h) (by kernel_rfl) (fun W hS => by (obtain ⟨s1, s2, s3⟩ := hS); go_simp; try with_reducible rfl) s0 ?_
              simp only [List.setIfInBounds_toArray, List.set_cons_succ, List.set_cons_zero]
              refine wpAnyH_do 1 169 rfl rfl (by kernel_rfl) (by kernel_rfl) (by kernel_rfl) (fun _ _ _ _ _ h => h) (by kernel_rfl) (fun W hS => by (obtain ⟨s1, s2, s3⟩ := hS); go_simp; try with_reducible rfl) s0 ?_
              simp only [List.setIfInBounds_toArray, List.set_cons_succ, List.set_cons_zero]
              refine wpAnyH_do 2 170 rfl rfl (by kernel_rfl) (by kernel_rfl) (by kernel_rfl) (fun _ _ _ _ _ h => h) (by kernel_rfl) (fun W hS => by (obtain ⟨s1, s2, s3⟩ := hS); go_simp; try with_reducible rfl) s0 ?_
              simp only [List.setIfInBounds_toArray, List.set_cons_succ, List.set_cons_zero]
              refine wpAnyH_do 3 171 rfl rfl (by kernel_rfl) (by kernel_rfl) (by kernel_rfl) (fun _ _ _ _ _ h => h) (by kernel_rfl) (fun W hS => by (obtain ⟨s1, s2, s3⟩ := hS); go_simp; try with_reducible rfl) s0 ?_
              simp only [List.setIfInBounds_toArray, List.set_cons_succ, List.set_cons_zero]
              refine wpAnyH_do 5 173 rfl rfl (by kernel_rfl) (by kernel_rfl) (by kernel_rfl) (fun _ _ _ _ _ h => h) (by kernel_rfl) (fun W hS => by (obtain ⟨s1, s2, s3⟩ := hS); go_simp; try with_reducible rfl) s0 ?_
              simp only [List.setIfInBounds_toArray, List.set_cons_succ, List.set_cons_zero]
              generalize w8.drew = w9 at *
              have BA := (Below.refl w9.heap.size w9).alloc (Nat.le_refl _) (.cells #[.int .i64 (P k).e.a, .int .i64 (P k).e.d, .slice ao s.length ca2] 45)
              have HA := H9.later BA
              have EA := E9.alloc (.cells #[.int .i64 (P k).e.a, .int .i64 (P k).e.d, .slice ao s.length ca2] 45)
              have s1 : (w9.alloc (.cells #[.int .i64 (P k).e.a, .int .i64 (P k).e.d, .slice ao s.length ca2] 45)).cell? ⟨G + 1, 0, none⟩ = some (.int .i64 (P k).e.a) ∧ (w9.alloc (.cells #[.int .i64 (P k).e.a, .int .i64 (P k).e.d, .slice ao s.length ca2] 45)).cell? ⟨G + 1, 1, none⟩ = some (.int .i64 (P k).e.d) ∧ (w9.alloc (.cells #[.int .i64 (P k).e.a, .int .i64 (P k).e.d, .slice ao s.length ca2] 45)).cell? ⟨G + 1, 2, none⟩ = some (.slice ao s.length ca2) := ⟨EA.k0, EA.k1, EA.k2⟩
              have d0a := HA.c0
              refine wpAnyH_two 4 6 rfl rfl (by kernel_rfl) (by kernel_rfl) (by kernel_rfl) (fun K hK => ?_) (fun K hK => ?_)
              go_simp
              refine hK _ _ s0 ?_
              clear hK
              refine wpAnyH_one 6 rfl (by kernel_rfl) (by kernel_rfl) (fun K hK => ?_)
              go_simp
              refine hK _ _ s1 ?_
              clear hK
              rotate_left
              go_simp
              refine hK _ _ s1 ?_
              clear hK
              refine wpAnyH_one 4 rfl (by kernel_rfl) (by kernel_rfl) (fun K hK => ?_)
              go_simp
              refine hK _ _ s1 ?_
              clear hK
              all_goals
                refine wpAnyH_one 7 rfl (by kernel_rfl) (by kernel_rfl) (fun K hK => ?_)
                have hone := Rv.lit w9 [.int .i64 (P k).e.a, .int .i64 (P k).e.d, .slice ao s.length ca2] 45 1 (by decide)
                refine opApp _ _ rfl Try.elEd B (.slice aa l.length ca) l.length (edcells l) rfl HA.oa (.slice (some ⟨w9.heap.size, 0, none⟩) 1 1) 1 [.int .i64 (P k).e.a, .int .i64 (P k).e.d, .slice ao s.length ca2] rfl hone rfl (by intro u hu; simp at hu; rcases hu with rfl | rfl | rfl <;> rfl) (by omega) (by have := H9.lo; have := H9.lt; simp; omega) ?_
                intro v10 w10 O10 g10 sn10
                obtain ⟨k10, a10, c10, rfl⟩ := own_shape O10
                obtain ⟨H11, S11⟩ := H9.setA (l' := l ++ [takeV l ⟨⟨c, n, b, ⟨a, d, s⟩⟩, ao, ca2⟩]) (DStep.grownA _ g10 sn10) (by rw [edcells_snoc, HYC.out, List.length_append]; exact O10)
                have hd10 := (g10.block dk (by have := H9.lt; simp; omega) (fun e => HA.na e.symm)).trans HA.blk
                have hne : ∀ j, j = G ∨ j = G + 1 → (Value.slice aa l.length ca).ownBlock ≠ some j := fun j hj e => by have := (H4.oa.lt j e).2; have := HG.out; omega
                have E10 := EA.kept (g10.block (G + 1) EA.lt (fun e => hne _ (.inr rfl) e.symm))
                have Y10 := (Y9.later BA).kept (g10.block G (Y9.later BA).lt (fun e => hne _ (.inl rfl) e.symm))
                have s2 : w10.cell? ⟨G + 1, 0, none⟩ = some (.int .i64 (P k).e.a) ∧ w10.cell? ⟨G + 1, 1, none⟩ = some (.int .i64 (P k).e.d) ∧ w10.cell? ⟨G + 1, 2, none⟩ = some (.slice ao s.length ca2) := ⟨E10.k0, E10.k1, E10.k2⟩
                have E11 := E10.kept (w' := w10.setCell ⟨dk, 0, none⟩ (.slice a10 k10 c10)) (Below.heap_setCell _ _ _ _ (by show G + 1 ≠ dk; omega))
                have Y11 := Y10.kept (w' := w10.setCell ⟨dk, 0, none⟩ (.slice a10 k10 c10)) (Below.heap_setCell _ _ _ _ (by show G ≠ dk; omega))
                have s3 : (w10.setCell ⟨dk, 0, none⟩ (.slice a10 k10 c10)).cell? ⟨G + 1, 0, none⟩ = some (.int .i64 (P k).e.a) ∧ (w10.setCell ⟨dk, 0, none⟩ (.slice a10 k10 c10)).cell? ⟨G + 1, 1, none⟩ = some (.int .i64 (P k).e.d) ∧ (w10.setCell ⟨dk, 0, none⟩ (.slice a10 k10 c10)).cell? ⟨G + 1, 2, none⟩ = some (.slice ao s.length ca2) := ⟨E11.k0, E11.k1, E11.k2⟩
                have f10 : w10.frozen? ⟨dk, 0, none⟩ = false := by simp [World.frozen?, hd10]
                have e10 : w10.cell? ⟨dk, 0, none⟩ = some (.slice aa l.length ca) := by simp [World.cell?, hd10]
                refine hK _ _ s2 ?_
                clear hK
                simp only [Act.put, List.setIfInBounds_toArray]
                refine wpAnyH_do 8 176 rfl rfl (by kernel_rfl) (by kernel_rfl) (by kernel_rfl) (fun _ _ _ _ _ h => h) (by kernel_rfl) (fun W hS => by (obtain ⟨s1, s2, s3⟩ := hS); go_simp; try with_reducible rfl) s2 ?_
                simp only [List.setIfInBounds_toArray, List.set_cons_succ, List.set_cons_zero]
                refine wpAnyH_do 9 177 rfl rfl (by kernel_rfl) (by kernel_rfl) (by kernel_rfl) (fun _ _ _ _ _ h => h) (by kernel_rfl) (fun W hS => by (obtain ⟨s1, s2, s3⟩ := hS); go_simp; try with_reducible rfl) s2 ?_
                simp only [List.setIfInBounds_toArray, List.set_cons_succ, List.set_cons_zero]
                refine wpAnyH_one 10 rfl (by kernel_rfl) (by kernel_rfl) (fun K hK => ?_)
                go_simp
                refine hK _ _ s3 ?_
                clear hK
                refine wpAnyH_done (by kernel_rfl) ?_ _
                go_wp2_with fail
                go_meet
                exact ⟨_, H11, E11, Y11, S9.trans S11, E11.lt⟩
            case rest =>
            rename World => w9
            obtain ⟨va9, H9, E9, Y9, S9, hG9⟩ := hcut
            obtain ⟨k9, a9, c9, rfl⟩ := own_shape H9.oa
            clear H8 E8 Y8 S8 hG8
            go_upto_region 28 with fail
            go_cut [] from 178 to 188 (fun wx => ∃ vc', DeskX wx B dk (.slice a9 k9 c9) vc' (.slice none 0 0) (l ++ [takeV l ⟨⟨c, n, b, ⟨a, d, s⟩⟩, ao, ca2⟩]) (cs ++ [c]) [] ∧ Box3 wx (G + 1) (.int .i64 (P k).e.a) (.int .i64 (P k).e.d) (.slice ao s.length ca2) ∧ DStep (dkF dk (.slice aa l.length ca) (.slice ac cs.length cc) (.slice none 0 0)) (dkF dk (.slice a9 k9 c9) vc' (.slice none 0 0)) w wx)
            case first =>
              have BD := (Below.refl w9.heap.size w9).drew
              have H10 := H9.later BD
              have E10 := E9.kept (w' := w9.drew) rfl
              have Y10 := Y9.later BD
              have S10 := S9.trans (DStep.ofBelow _ BD)
              have s0 : w9.drew.cell? ⟨G, 0, none⟩ = some (.int .i64 (c : Int)) := Y10.at 0
              have d1 := H10.c1
              clear BD H9 E9 Y9 S9 hG9
              refine wp_region_held_drew (S := fun W => W.cell? ⟨G, 0, none⟩ = some (.int .i64 (c : Int))) (by kernel_rfl) s0 (fun _ => ?_)
              refine wpAnyH_do 0 178 rfl rfl (by kernel_rfl) (by kernel_rfl) (by kernel_rfl) (fun _ _ _ _ _ h => h) (by kernel_rfl) (fun W hS => by (obtain s1 := hS); go_simp; try with_reducible rfl) s0 ?_
              simp only [List.setIfInBounds_toArray, List.set_cons_succ, List.set_cons_zero]
              refine wpAnyH_do 1 179 rfl rfl (by kernel_rfl) (by kernel_rfl) (by kernel_rfl) (fun _ _ _ _ _ h => h) (by kernel_rfl) (fun W hS => by (obtain s1 := hS); go_simp; try with_reducible rfl) s0 ?_
              simp only [List.setIfInBounds_toArray, List.set_cons_succ, List.set_cons_zero]
              refine wpAnyH_do 2 180 rfl rfl (by kernel_rfl) (by kernel_rfl) (by kernel_rfl) (fun _ _ _ _ _ h => h) (by kernel_rfl) (fun W hS => by (obtain s1 := hS); go_simp; try with_reducible rfl) s0 ?_
              simp only [List.setIfInBounds_toArray, List.set_cons_succ, List.set_cons_zero]
              refine wpAnyH_do 3 181 rfl rfl (by kernel_rfl) (by kernel_rfl) (by kernel_rfl) (fun _ _ _ _ _ h => h) (by kernel_rfl) (fun W hS => by (obtain s1 := hS); go_simp; try with_reducible rfl) s0 ?_
              simp only [List.setIfInBounds_toArray, List.set_cons_succ, List.set_cons_zero]
              refine wpAnyH_do 5 183 rfl rfl (by kernel_rfl) (by kernel_rfl) (by kernel_rfl) (fun _ _ _ _ _ h => h) (by kernel_rfl) (fun W hS => by (obtain s1 := hS); go_simp; try with_reducible rfl) s0 ?_
              simp only [List.setIfInBounds_toArray, List.set_cons_succ, List.set_cons_zero]
              refine wpAnyH_do 6 184 rfl rfl (by kernel_rfl) (by kernel_rfl) (by kernel_rfl) (fun _ _ _ _ _ h => h) (by kernel_rfl) (fun W hS => by (obtain s1 := hS); go_simp; try with_reducible rfl) s0 ?_
              simp only [List.setIfInBounds_toArray, List.set_cons_succ, List.set_cons_zero]
              generalize w9.drew = w10 at *
              have BA := (Below.refl w10.heap.size w10).alloc (Nat.le_refl _) (.cells #[.int .i64 (c : Int)] 3)
              have HA := H10.later BA
              have YA := Y10.later BA
              have s1 : (w10.alloc (.cells #[.int .i64 (c : Int)] 3)).cell? ⟨G, 0, none⟩ = some (.int .i64 (c : Int)) := YA.at 0
              have d1a := HA.c1
              refine wpAnyH_two 4 7 rfl rfl (by kernel_rfl) (by kernel_rfl) (by kernel_rfl) (fun K hK => ?_) (fun K hK => ?_)
              go_simp
              refine hK _ _ s0 ?_
              clear hK
              refine wpAnyH_one 7 rfl (by kernel_rfl) (by kernel_rfl) (fun K hK => ?_)
              go_simp
              refine hK _ _ s1 ?_
              clear hK
              rotate_left
              go_simp
              refine hK _ _ s1 ?_
              clear hK
              refine wpAnyH_one 4 rfl (by kernel_rfl) (by kernel_rfl) (fun K hK => ?_)
              go_simp
              refine hK _ _ s1 ?_
              clear hK
              all_goals
                refine wpAnyH_one 8 rfl (by kernel_rfl) (by kernel_rfl) (fun K hK => ?_)
                have hone := Rv.lit w10 [.int .i64 (c : Int)] 3 1 (by decide)
                refine opApp _ _ rfl Try.elI B (.slice ac cs.length cc) cs.length (cs.map fun c : Nat => Value.int .i64 (c : Int)) rfl HA.oc (.slice (some ⟨w10.heap.size, 0, none⟩) 1 1) 1 [.int .i64 (c : Int)] rfl hone rfl (ones1 _ rfl) (by omega) (by have := H10.lo; have := H10.lt; simp; omega) ?_
                intro v11 w11 O11 g11 sn11
                obtain ⟨k11, a11, c11, rfl⟩ := own_shape O11
                obtain ⟨H12, S12⟩ := H10.setC (cs' := cs ++ [c]) (DStep.grownA _ g11 sn11) (by rw [List.map_append, List.length_append]; exact O11)
                have hd11 := (g11.block dk (by have := H10.lt; simp; omega) (fun e => HA.nc e.symm)).trans HA.blk
                have hne : ∀ j, j = G ∨ j = G + 1 → (Value.slice ac cs.length cc).ownBlock ≠ some j := fun j hj e => by have := (H4.oc.lt j e).2; have := HG.out; omega
                have E11 := (E10.alloc (.cells #[.int .i64 (c : Int)] 3)).kept (g11.block (G + 1) (E10.alloc _).lt (fun e => hne _ (.inr rfl) e.symm))
                have Y11 := YA.kept (g11.block G YA.lt (fun e => hne _ (.inl rfl) e.symm))
                have s2 : w11.cell? ⟨G, 0, none⟩ = some (.int .i64 (c : Int)) := Y11.at 0
                have E12 := E11.kept (w' := w11.setCell ⟨dk, 1, none⟩ (.slice a11 k11 c11)) (Below.heap_setCell _ _ _ _ (by show G + 1 ≠ dk; omega))
                have Y12 := Y11.kept (w' := w11.setCell ⟨dk, 1, none⟩ (.slice a11 k11 c11)) (Below.heap_setCell _ _ _ _ (by show G ≠ dk; omega))
                have s3 : (w11.setCell ⟨dk, 1, none⟩ (.slice a11 k11 c11)).cell? ⟨G, 0, none⟩ = some (.int .i64 (c : Int)) := Y12.at 0
                have f11 : w11.frozen? ⟨dk, 1, none⟩ = false := by simp [World.frozen?, hd11]
                have e11 : w11.cell? ⟨dk, 1, none⟩ = some (.slice ac cs.length cc) := by simp [World.cell?, hd11]
                refine hK _ _ s2 ?_
                clear hK
                simp only [Act.put, List.setIfInBounds_toArray]
                refine wpAnyH_do 9 187 rfl rfl (by kernel_rfl) (by kernel_rfl) (by kernel_rfl) (fun _ _ _ _ _ h => h) (by kernel_rfl) (fun W hS => by (obtain s1 := hS); go_simp; try with_reducible rfl) s2 ?_
                simp only [List.setIfInBounds_toArray, List.set_cons_succ, List.set_cons_zero]
                refine wpAnyH_do 10 188 rfl rfl (by kernel_rfl) (by kernel_rfl) (by kernel_rfl) (fun _ _ _ _ _ h => h) (by kernel_rfl) (fun W hS => by (obtain s1 := hS); go_simp; try with_reducible rfl) s2 ?_
                simp only [List.setIfInBounds_toArray, List.set_cons_succ, List.set_cons_zero]
                refine wpAnyH_one 11 rfl (by kernel_rfl) (by kernel_rfl) (fun K hK => ?_)
                go_simp
                refine hK _ _ s3 ?_
                clear hK
                refine wpAnyH_done (by kernel_rfl) ?_ _
                go_wp2_with fail
                go_meet
                exact ⟨_, H12, E12, S10.trans S12⟩
            case rest =>
            rename World => w10
            obtain ⟨vc10, H10, E10, S10⟩ := hcut
            clear H9 E9 Y9 S9 hG9
            have e0 := E10.k0
            have e1 := E10.k1
            have e2 := E10.k2
            have BA := (Below.refl w10.heap.size w10).alloc (Nat.le_refl _) (.cells #[.int .i64 (P k).e.a, .int .i64 (P k).e.d, .slice ao s.length ca2] 45)
            go_wp2_with (at_builtin; refine wpList_app _ rfl _ _ rfl Try.elEd w10.heap.size (.slice none 0 0) 0 [] rfl (World.ownsRow_nil _ _ _ _) (.slice (some ⟨w10.heap.size, 0, none⟩) 1 1) 1 [.int .i64 (P k).e.a, .int .i64 (P k).e.d, .slice ao s.length ca2] rfl (Rv.lit w10 [.int .i64 (P k).e.a, .int .i64 (P k).e.d, .slice ao s.length ca2] 45 1 (by decide)) rfl (by intro u hu; simp at hu; rcases hu with rfl | rfl | rfl <;> rfl) (by omega) (by simp) ?_; intro v11 w11 O11 g11 e11; refine later ?_)
            have B11 := BA.grown g11 (by simp) (fun g e => by cases e)
            have H11 := H10.later B11
            have S11 := S10.trans (DStep.ofBelow _ B11)
            have F11 := Off.ge O11 (fun b hb => (H10.fl b hb).2)
            have O11 : w11.ownsRow w10.heap.size 45 3 v11 1 (takeV l ⟨⟨c, n, b, ⟨a, d, s⟩⟩, ao, ca2⟩).cells := by rw [HYC.out]; exact O11
            have O11 := own_base O11 S10.size
            clear e0 e1 e2 g11 e11 BA E10 H10 S10
            refine Later.in ?_
            go_wp2_with fail
            refine (ready0_any _ H11).mono ?_
            rintro e w12 ⟨rfl, B12⟩
            have H12 := H11.later B12
            have S12 := S11.trans (DStep.ofBelow _ B12)
            have O12 := own_below O11 B12
            go_wp2_with fail
            go_roundw
            case rel => exact .inr ⟨rfl, _, _, H12, O12, F11, S12⟩
            case measure => simp [intOf]
      · obtain ⟨va', vc', F1, F2, F3, F4⟩ := hfin
        obtain ⟨ko, a9, c9, rfl⟩ := own_shape F2
        go_wp2_with fail
        go_ret2
        exact ⟨va', vc', _, rfl, F1, F2, F3, F4⟩
end Go.Proofs.Ytpehnggglolnoaa
