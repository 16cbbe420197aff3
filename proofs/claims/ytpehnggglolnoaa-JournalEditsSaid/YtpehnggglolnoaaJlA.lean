/- Package journal: a log in memory; Append. -/
import Derived.Test.YtpehnggglolnoaaJlP
import Derived.Test.YtpehnggglolnoaaJrnI
import Derived.Test.YtpehnggglolnoaaHeld
import Derived.Defers
namespace Go.Proofs.Ytpehnggglolnoaa
open Go.RowKit

/-- A log's four cells. -/
def lgO (p : Nat) (f : Int) (g : Lg) : Obj := .cells #[.pointer (some ⟨p, 0, none⟩), .int .i64 f, .int .i64 (g.n : Int), .bool g.down] 93 (0, 0)
/-- The log g in block q, on the disk in block p, in its file f. -/
structure LgAt (w : World) (q p : Nat) (f : Int) (g : Lg) : Prop where
  blk : w.heap[q]? = some (lgO p f g)
section
variable {w w' : World} {p q : Nat} {f : Int} {g : Lg} {X X' X1 : Nat → Prop} {D : Dk}
theorem LgAt.lt (h : LgAt w q p f g) : q < w.heap.size := (Array.getElem?_eq_some_iff.1 h.blk).1
theorem LgAt.c0 (h : LgAt w q p f g) : w.cell? ⟨q, 0, none⟩ = some (.pointer (some ⟨p, 0, none⟩)) := by have := h.blk; unfold lgO at this; simp [World.cell?, this]
theorem LgAt.c1 (h : LgAt w q p f g) : w.cell? ⟨q, 1, none⟩ = some (.int .i64 f) := by have := h.blk; unfold lgO at this; simp [World.cell?, this]
theorem LgAt.c2 (h : LgAt w q p f g) : w.cell? ⟨q, 2, none⟩ = some (.int .i64 (g.n : Int)) := by have := h.blk; unfold lgO at this; simp [World.cell?, this]
theorem LgAt.c3 (h : LgAt w q p f g) : w.cell? ⟨q, 3, none⟩ = some (.bool g.down) := by have := h.blk; unfold lgO at this; simp [World.cell?, this]
theorem LgAt.fz (h : LgAt w q p f g) (j : Nat) : w.frozen? ⟨q, j, none⟩ = false := by have := h.blk; unfold lgO at this; simp [World.frozen?, this]
theorem LgAt.later (h : LgAt w q p f g) (B : Below w.heap.size w w') : LgAt w' q p f g := ⟨(B.block q h.lt).trans h.blk⟩
theorem LgAt.step (h : LgAt w q p f g) (S : DStep X X' w w') (hq : ¬ X q) : LgAt w' q p f g := ⟨(S.block q h.lt hq).trans h.blk⟩
theorem LgAt.set (h : LgAt w q p f g) {b i : Nat} (hb : q ≠ b) (v : Value) : LgAt (w.setCell ⟨b, i, none⟩ v) q p f g := ⟨(Below.heap_setCell _ _ _ _ hb).trans h.blk⟩
theorem LgAt.down (h : LgAt w q p f g) : LgAt (w.setCell ⟨q, 3, none⟩ (.bool true)) q p f ⟨g.n, true⟩ := by
  have := h.blk
  unfold lgO at this
  refine ⟨?_⟩
  unfold lgO
  simp [World.setCell, Array.getElem?_modify, this]
theorem LgAt.more (h : LgAt w q p f g) : LgAt (w.setCell ⟨q, 2, none⟩ (.int .i64 ((g.n + 1 : Nat) : Int))) q p f ⟨g.n + 1, g.down⟩ := by
  have := h.blk
  unfold lgO at this
  refine ⟨?_⟩
  unfold lgO
  simp [World.setCell, Array.getElem?_modify, this]
theorem DAt.set (h : DAt w p X D) {b i : Nat} (hb : ¬ X b) (v : Value) : DAt (w.setCell ⟨b, i, none⟩ v) p X D := by
  obtain ⟨mb, F, ks, h⟩ := h
  exact ⟨mb, F, ks, h.kept (by rw [World.size_setCell]; exact Nat.le_refl _) (fun c hc => Below.heap_setCell _ _ _ _ (fun e => hb (by rw [← show c = b from e]; exact hc)))⟩
/-- What lies between was not the disk's. -/
theorem DStep.gap (S : DStep X X' w w') {N b : Nat} (hN : ∀ b, X b → b < N) (hb : N ≤ b) (hb2 : b < w.heap.size) : ¬ X' b := fun h => (S.grow b h).elim (fun h => by have := hN b h; omega) (fun h => by omega)
end

/-- Append's deferred closure. -/
theorem logdown_any (eb lb q p : Nat) (f : Int) (g : Lg) (x : Int) (u : FrameMode) (w : World) (he : w.cell? ⟨eb, 0, none⟩ = some (.int .i64 x)) (hl : w.cell? ⟨lb, 0, none⟩ = some (.pointer (some ⟨q, 0, none⟩))) (hg : LgAt w q p f g) :
    CallsD Try.prog 55 #[.pointer (some ⟨eb, 0, none⟩), .pointer (some ⟨lb, 0, none⟩)] u w fun e u' w' => u' = u ∧ (e = .returned (.tuple #[]) ∧ w' = if x = 19 then w.setCell ⟨q, 3, none⟩ (.bool true) else w) := by
  have f3 := hg.fz 3
  have c3 := hg.c3
  by_cases hx : x = 19
  · subst hx
    rw [if_pos rfl]
    go_enter_d Try.func55, Try.ntmps55
    go_wp2
    go_end0
    exact ⟨rfl, rfl⟩
  · rw [if_neg hx]
    go_enter_d Try.func55, Try.ntmps55
    go_wp2
    go_end0
    exact ⟨rfl, rfl⟩
theorem logdown_end {w W w3 : World} {q p n : Nat} {f x : Int} {X X1 : Nat → Prop} {D : Dk} (hw : w3 = if x = 19 then W.setCell ⟨q, 3, none⟩ (.bool true) else W) (hg : LgAt W q p f ⟨n, false⟩) (hD : DAt W p X1 D) (hq : ¬ X1 q) (S : DStep (fun b => X b ∨ b = q) (fun b => X1 b ∨ b = q) w W) :
    LgAt w3 q p f ⟨n, decide (x = 19)⟩ ∧ DAt w3 p X1 D ∧ DStep (fun b => X b ∨ b = q) (fun b => X1 b ∨ b = q) w w3 ∧ ∀ e, e ≠ q → w3.cell? ⟨e, 0, none⟩ = W.cell? ⟨e, 0, none⟩ := by
  subst hw
  by_cases hx : x = 19
  · rw [if_pos hx, decide_eq_true hx]
    exact ⟨hg.down, hD.set hq _, S.set (.inl (.inr rfl)) _, fun e he => World.cell?_setCell_other _ _ _ _ (fun h => by injection h with h1 h2; first | exact he h1 | exact he h1.symm | exact absurd h2 (by decide))⟩
  · rw [if_neg hx, decide_eq_false hx]
    exact ⟨hg, hD, S, fun _ _ => rfl⟩
theorem logdown_door {w W : World} {q p n eb lb : Nat} {f x : Int} {X X1 : Nat → Prop} {D : Dk} {tmps : Array Value} {K : Ending → World → Prop} (ht : tmps[4]? = some (.pointer (some ⟨eb, 0, none⟩)))
    (he : W.cell? ⟨eb, 0, none⟩ = some (.int .i64 x)) (hl : W.cell? ⟨lb, 0, none⟩ = some (.pointer (some ⟨q, 0, none⟩))) (hqe : eb ≠ q) (hg : LgAt W q p f ⟨n, false⟩) (hD : DAt W p X1 D) (hq : ¬ X1 q) (S : DStep (fun b => X b ∨ b = q) (fun b => X1 b ∨ b = q) w W)
    (hK : ∀ w3, LgAt w3 q p f ⟨n, decide (x = 19)⟩ → DAt w3 p X1 D → DStep (fun b => X b ∨ b = q) (fun b => X1 b ∨ b = q) w w3 → K (.returned (.int .i64 x)) w3) :
    Leaves Try.prog Try.f17 tmps K [{ target := .fn (.func 55) #[.pointer (some ⟨eb, 0, none⟩), .pointer (some ⟨lb, 0, none⟩)], args := #[] }] .returning W := by
  refine leaves_cons (f := 55) (args := #[.pointer (some ⟨eb, 0, none⟩), .pointer (some ⟨lb, 0, none⟩)]) (by simp) (by simp [go_sem]) ?_
  refine (logdown_any eb lb q p f _ x .returning W he hl hg).mono ?_
  rintro e u' w3 ⟨rfl, rfl, hw3⟩
  obtain ⟨h1, h2, h3, h4⟩ := logdown_end hw3 hg hD hq S
  have hc := (h4 eb hqe).trans he
  refine ⟨.int .i64 x, ?_, hK w3 h1 h2 h3⟩
  simp [results, Try.results17, go_sem, ht, hc]
set_option maxRecDepth 20000 in
set_option maxHeartbeats 1000000 in
theorem lappend (f : Int) (g : Lg) (bv : Value) (b : List UInt8) (w : World) {p q : Nat} {X : Nat → Prop} {D : Dk} (h : DAt w p X D) (hg : LgAt w q p f g) (hq : ¬ X q) (hb : Rv w bv b.length (b.map vB)) (hbl : b.length ≤ 1000000000) (hn : g.n ≤ 1000000000) :
    Calls Try.prog 17 #[.pointer (some ⟨q, 0, none⟩), bv] w fun e w' => e = .returned (.int .i64 (D.logApp f g b).1) ∧ ∃ X', DAt w' p X' (D.logApp f g b).2.1 ∧ LgAt w' q p f (D.logApp f g b).2.2 ∧ ¬ X' q ∧ DStep (fun b => X b ∨ b = q) (fun b => X' b ∨ b = q) w w' := by
  have hmf : ∀ (fn : Fn) (first cap : Array Value) (w : World), (Instr.makeFunc fn first cap).run Try.prog w = .ok (.func fn first cap) w := fun _ _ _ _ => rfl
  obtain ⟨ao, cap, rfl, hcap, _⟩ := hb.opened
  obtain ⟨R, hR⟩ : ∃ R, D.logApp f g b = R := ⟨_, rfl⟩
  rw [hR]
  unfold Dk.logApp at hR
  have HR := Bx.mk hR
  clear hR
  go_enter_defers Try.func17, Try.ntmps17
  go_upto_region 1 with fail
  have B2 : Below w.heap.size w ((w.alloc (.cells #[.pointer (some ⟨q, 0, none⟩)] 25)).alloc (.cells #[.int .i64 0] 27)) := ((Below.refl w.heap.size w).alloc (Nat.le_refl _) _).alloc (by simp) _
  have cl : ((w.alloc (.cells #[.pointer (some ⟨q, 0, none⟩)] 25)).alloc (.cells #[.int .i64 0] 27)).cell? ⟨w.heap.size, 0, none⟩ = some (.pointer (some ⟨q, 0, none⟩)) := by simp [go_sem]
  have ce : ((w.alloc (.cells #[.pointer (some ⟨q, 0, none⟩)] 25)).alloc (.cells #[.int .i64 0] 27)).cell? ⟨w.heap.size + 1, 0, none⟩ = some (.int .i64 0) := by simp [go_sem]
  have fe : ((w.alloc (.cells #[.pointer (some ⟨q, 0, none⟩)] 25)).alloc (.cells #[.int .i64 0] 27)).frozen? ⟨w.heap.size + 1, 0, none⟩ = false := by simp [go_sem]
  have hs2 : ((w.alloc (.cells #[.pointer (some ⟨q, 0, none⟩)] 25)).alloc (.cells #[.int .i64 0] 27)).heap.size = w.heap.size + 2 := by simp
  generalize (w.alloc (.cells #[.pointer (some ⟨q, 0, none⟩)] 25)).alloc (.cells #[.int .i64 0] 27) = w2 at *
  have D2 := h.later B2
  have g2 := hg.later B2
  have b2 := hb.below B2
  have cs : ∀ v, (w2.setCell ⟨w.heap.size + 1, 0, none⟩ v).cell? ⟨w.heap.size + 1, 0, none⟩ = some v := fun v => World.cell?_setCell_same _ _ _ ce
  have hql := hg.lt
  have hqe : q ≠ w.heap.size + 1 := by omega
  have hXe : ¬ X (w.heap.size + 1) := fun hx => by have := h.xl _ hx; omega
  have hXl : ¬ X w.heap.size := fun hx => by have := h.xl _ hx; omega
  have hXw := h.xl
  have c3 := g2.c3
  clear hg hb h
  by_cases hlong : 65536 < b.length
  · have hR := HR.out
    rw [if_pos hlong] at hR
    go_wp2_with fail
    refine ⟨.int .i64 4, by simp [results, Try.results17, go_sem, cs], ?_⟩
    rw [← hR]
    exact ⟨rfl, X, D2.set hXe _, g2.set hqe _, hq, (DStep.ofBelow _ B2).set (.inr (by omega)) _⟩
  · have hR := HR.out
    rw [if_neg hlong] at hR
    have HR := Bx.mk hR
    clear hR
    cases hd : g.down
    · rw [hd] at c3
      have hR := HR.out
      rw [hd, if_neg (by simp)] at hR
      have HR := Bx.mk hR
      clear hR
      have c0 := g2.c0
      have c1 := g2.c1
      have c2 := g2.c2
      obtain ⟨n, hn1⟩ : ∃ n, g.n = n := ⟨_, rfl⟩
      have hR := HR.out
      rw [hn1] at hR c2 hn
      have HR := Bx.mk hR
      clear hR
      have gg : LgAt w2 q p f ⟨n, false⟩ := by rw [← hn1, ← hd]; exact g2
      obtain ⟨F, hF⟩ : ∃ F, frameM (n : Int) b = F := ⟨_, rfl⟩
      have hR := HR.out
      rw [hF] at hR
      have HR := Bx.mk hR
      have hfr := fun W hW => frame_any (.slice ao b.length cap) b (n : Int) W hW hbl (by omega)
      rw [hF] at hfr
      have HFR := Bx.mk hfr
      have hFl : F.length ≤ 1000000000 := by
        have h1 : (zvar (n : Int)).length ≤ 10 := uvar_len _
        have h2 := uvar_len b.length
        have h3 := uvar_len (coreM (n : Int) b).length
        have h4 := uvar_len (bytesB frameL (coreM (n : Int) b)).toNat
        have e : (coreM (n : Int) b).length = (zvar (n : Int)).length + ((uvar b.length).length + b.length) := by rw [coreM, rawW]; simp only [List.length_append]
        have e2 : (frameM (n : Int) b).length = (uvar (coreM (n : Int) b).length).length + (coreM (n : Int) b).length + (uvar (bytesB frameL (coreM (n : Int) b)).toNat).length := by rw [frameM, rawW]; simp only [List.length_append]
        rw [← hF]; omega
      clear hR hfr hF g2 hn1 hd
      go_upto_region 6 with fail
      have B2d := (Below.refl w2.heap.size w2).drew
      have s0 : w2.drew.cell? ⟨w.heap.size, 0, none⟩ = some (.pointer (some ⟨q, 0, none⟩)) ∧ w2.drew.cell? ⟨q, 0, none⟩ = some (.pointer (some ⟨p, 0, none⟩)) ∧ w2.drew.cell? ⟨q, 1, none⟩ = some (.int .i64 f) ∧ w2.drew.cell? ⟨q, 2, none⟩ = some (.int .i64 (n : Int)) := ⟨cl, c0, c1, c2⟩
      refine wp_region_noPanic ?_
      refine wp_region_held_drew (S := fun W => W.cell? ⟨w.heap.size, 0, none⟩ = some (.pointer (some ⟨q, 0, none⟩)) ∧ W.cell? ⟨q, 0, none⟩ = some (.pointer (some ⟨p, 0, none⟩)) ∧ W.cell? ⟨q, 1, none⟩ = some (.int .i64 f) ∧ W.cell? ⟨q, 2, none⟩ = some (.int .i64 (n : Int))) (by kernel_rfl) s0 (fun _ => ?_)
      refine wpAnyH_do 0 15 rfl rfl (by kernel_rfl) (by kernel_rfl) (by kernel_rfl) (fun _ _ _ _ _ h => h) (by kernel_rfl) (fun W hS => by (obtain ⟨s1, s2, s3, s4⟩ := hS); go_simp; try with_reducible rfl) s0 ?_
      simp only [List.setIfInBounds_toArray, List.set_cons_succ, List.set_cons_zero]
      refine wpAnyH_do 1 16 rfl rfl (by kernel_rfl) (by kernel_rfl) (by kernel_rfl) (fun _ _ _ _ _ h => h) (by kernel_rfl) (fun W hS => by (obtain ⟨s1, s2, s3, s4⟩ := hS); go_simp; try with_reducible rfl) s0 ?_
      simp only [List.setIfInBounds_toArray, List.set_cons_succ, List.set_cons_zero]
      refine wpAnyH_do 2 17 rfl rfl (by kernel_rfl) (by kernel_rfl) (by kernel_rfl) (fun _ _ _ _ _ h => h) (by kernel_rfl) (fun W hS => by (obtain ⟨s1, s2, s3, s4⟩ := hS); go_simp; try with_reducible rfl) s0 ?_
      simp only [List.setIfInBounds_toArray, List.set_cons_succ, List.set_cons_zero]
      refine wpAnyH_do 3 18 rfl rfl (by kernel_rfl) (by kernel_rfl) (by kernel_rfl) (fun _ _ _ _ _ h => h) (by kernel_rfl) (fun W hS => by (obtain ⟨s1, s2, s3, s4⟩ := hS); go_simp; try with_reducible rfl) s0 ?_
      simp only [List.setIfInBounds_toArray, List.set_cons_succ, List.set_cons_zero]
      refine wpAnyH_do 4 19 rfl rfl (by kernel_rfl) (by kernel_rfl) (by kernel_rfl) (fun _ _ _ _ _ h => h) (by kernel_rfl) (fun W hS => by (obtain ⟨s1, s2, s3, s4⟩ := hS); go_simp; try with_reducible rfl) s0 ?_
      simp only [List.setIfInBounds_toArray, List.set_cons_succ, List.set_cons_zero]
      refine wpAnyH_do 5 20 rfl rfl (by kernel_rfl) (by kernel_rfl) (by kernel_rfl) (fun _ _ _ _ _ h => h) (by kernel_rfl) (fun W hS => by (obtain ⟨s1, s2, s3, s4⟩ := hS); go_simp; try with_reducible rfl) s0 ?_
      simp only [List.setIfInBounds_toArray, List.set_cons_succ, List.set_cons_zero]
      refine wpAnyH_do 6 21 rfl rfl (by kernel_rfl) (by kernel_rfl) (by kernel_rfl) (fun _ _ _ _ _ h => h) (by kernel_rfl) (fun W hS => by (obtain ⟨s1, s2, s3, s4⟩ := hS); go_simp; try with_reducible rfl) s0 ?_
      simp only [List.setIfInBounds_toArray, List.set_cons_succ, List.set_cons_zero]
      refine wpAnyH_do 7 22 rfl rfl (by kernel_rfl) (by kernel_rfl) (by kernel_rfl) (fun _ _ _ _ _ h => h) (by kernel_rfl) (fun W hS => by (obtain ⟨s1, s2, s3, s4⟩ := hS); go_simp; try with_reducible rfl) s0 ?_
      simp only [List.setIfInBounds_toArray, List.set_cons_succ, List.set_cons_zero]
      refine wpAnyH_do 8 23 rfl rfl (by kernel_rfl) (by kernel_rfl) (by kernel_rfl) (fun _ _ _ _ _ h => h) (by kernel_rfl) (fun W hS => by (obtain ⟨s1, s2, s3, s4⟩ := hS); go_simp; try with_reducible rfl) s0 ?_
      simp only [List.setIfInBounds_toArray, List.set_cons_succ, List.set_cons_zero]
      refine wpAnyH_do 9 24 rfl rfl (by kernel_rfl) (by kernel_rfl) (by kernel_rfl) (fun _ _ _ _ _ h => h) (by kernel_rfl) (fun W hS => by (obtain ⟨s1, s2, s3, s4⟩ := hS); go_simp; try with_reducible rfl) s0 ?_
      simp only [List.setIfInBounds_toArray, List.set_cons_succ, List.set_cons_zero]
      refine wpAnyH_do 10 25 rfl rfl (by kernel_rfl) (by kernel_rfl) (by kernel_rfl) (fun _ _ _ _ _ h => h) (by kernel_rfl) (fun W hS => by (obtain ⟨s1, s2, s3, s4⟩ := hS); go_simp; try with_reducible rfl) s0 ?_
      simp only [List.setIfInBounds_toArray, List.set_cons_succ, List.set_cons_zero]
      refine wpAnyH_do 11 26 rfl rfl (by kernel_rfl) (by kernel_rfl) (by kernel_rfl) (fun _ _ _ _ _ h => h) (by kernel_rfl) (fun W hS => by (obtain ⟨s1, s2, s3, s4⟩ := hS); go_simp; try with_reducible rfl) s0 ?_
      simp only [List.setIfInBounds_toArray, List.set_cons_succ, List.set_cons_zero]
      refine wpAnyH_do 12 27 rfl rfl (by kernel_rfl) (by kernel_rfl) (by kernel_rfl) (fun _ _ _ _ _ h => h) (by kernel_rfl) (fun W hS => by (obtain ⟨s1, s2, s3, s4⟩ := hS); go_simp; try with_reducible rfl) s0 ?_
      simp only [List.setIfInBounds_toArray, List.set_cons_succ, List.set_cons_zero]
      refine wpAnyH_one 13 rfl (by kernel_rfl) (by kernel_rfl) (fun K hK => ?_)
      go_simp
      refine (HFR.out w2.drew (b2.below B2d)).mono ?_
      rintro e w3 ⟨v3, rfl, M3⟩
      have B3 := B2d.trans (M3.2.mono (Nat.le_refl _))
      have B4 : Below w.heap.size w w3 := bel B2 B3
      have D3 := D2.later B3
      have g3 := gg.later B3
      have cl3 := (B3.cell (p := ⟨w.heap.size, 0, none⟩) (by rw [hs2]; exact Nat.lt_add_of_pos_right (by decide))).trans cl
      have ce3 := (B3.cell (p := ⟨w.heap.size + 1, 0, none⟩) (by rw [hs2]; exact Nat.lt_succ_self _)).trans ce
      have O3 := M3.1
      rw [List.length_map] at O3
      have o3 : Off v3 X := Off.ge O3 D2.xl
      refine hK _ _ ⟨cl3, g3.c0, g3.c1, g3.c2⟩ ?_
      clear hK
      refine wpAnyH_one 14 rfl (by kernel_rfl) (by kernel_rfl) (fun K hK => ?_)
      go_simp
      refine (dappend w3 f v3 F D3 (Rv.of_own O3) o3 hFl).mono ?_
      rintro e w4 ⟨rfl, X4, D4, S4⟩
      obtain ⟨⟨r, E⟩, hA⟩ : ∃ A, D.append f F = A := ⟨_, rfl⟩
      have hR := HR.out
      rw [hA] at hR D4 ⊢
      change DAt w4 p X4 E at D4
      change (if r ≠ 0 then (r, E, (⟨n, decide (r = 19)⟩ : Lg)) else if E.sync.1 ≠ 0 then (E.sync.1, E.sync.2, (⟨n, decide (E.sync.1 = 19)⟩ : Lg)) else (0, E.sync.2, ⟨n + 1, false⟩)) = R at hR
      have HR := Bx.mk hR
      clear hR
      have hz3 := B4.size
      have q4 : ¬ X4 q := fun hx => (S4.grow _ hx).elim hq (fun h => by omega)
      have xe4 : ¬ X4 (w.heap.size + 1) := fun hx => (S4.grow _ hx).elim hXe (fun h => by have := B3.size; omega)
      have xl4 : ¬ X4 w.heap.size := fun hx => (S4.grow _ hx).elim hXl (fun h => by have := B3.size; omega)
      have g4 := g3.step S4 hq
      have cl4 : w4.cell? ⟨w.heap.size, 0, none⟩ = some (.pointer (some ⟨q, 0, none⟩)) := by
        have := S4.block w.heap.size (by have := B3.size; omega) hXl
        unfold World.cell? at cl3 ⊢
        rw [this]
        exact cl3
      have ce4 : w4.cell? ⟨w.heap.size + 1, 0, none⟩ = some (.int .i64 0) := by
        have := S4.block (w.heap.size + 1) (by have := B3.size; omega) hXe
        unfold World.cell? at ce3 ⊢
        rw [this]
        exact ce3
      have fe4 : w4.frozen? ⟨w.heap.size + 1, 0, none⟩ = false := by
        have h1 := S4.block (w.heap.size + 1) (by have := B3.size; omega) hXe
        have h2 := B3.block (w.heap.size + 1) (by omega)
        unfold World.frozen? at fe ⊢
        rw [h1, h2]
        exact fe
      have Sw : DStep (fun b => X b ∨ b = q) (fun b => X4 b ∨ b = q) w w4 := ((DStep.ofBelow X B4).trans S4).wide _
      refine hK _ _ ⟨cl4, g4.c0, g4.c1, g4.c2⟩ ?_
      refine wpAnyH_do 15 5 rfl rfl (by kernel_rfl) (by kernel_rfl) (by kernel_rfl) (fun _ _ _ _ _ h => h) (by kernel_rfl) (fun W hS => by (obtain ⟨s1, s2, s3, s4⟩ := hS); go_simp; try with_reducible rfl) ⟨cl4, g4.c0, g4.c1, g4.c2⟩ ?_
      simp only [List.setIfInBounds_toArray, List.set_cons_succ, List.set_cons_zero]
      refine wpAnyH_done (by kernel_rfl) ?_ _
      refine NoPanic.normal ?_
      clear hK s0 B2d B3 M3 D3 g3 cl3 ce3 O3 o3 S4 HFR hA b2 c0 c1 c2 c3 gg D2 cl ce fe cs
      have ce4' := fun v => World.cell?_setCell_same w4 ⟨w.heap.size + 1, 0, none⟩ v ce4
      have D5 := fun v => D4.set (i := 0) xe4 v
      have g5 := fun v => g4.set (i := 0) hqe v
      have cl5 : ∀ v, (w4.setCell ⟨w.heap.size + 1, 0, none⟩ v).cell? ⟨w.heap.size, 0, none⟩ = some (.pointer (some ⟨q, 0, none⟩)) := fun v => (World.cell?_setCell_other _ _ _ _ (by simp)).trans cl4
      by_cases hr : r = 0
      · subst hr
        have hR := HR.out
        rw [if_neg (by simp)] at hR
        have HR := Bx.mk hR
        clear hR
        have c04 := g4.c0
        go_wp2_with fail
        refine (dsync w4 D4).mono ?_
        rintro e w5 ⟨rfl, D5, S5⟩
        obtain ⟨⟨r, G⟩, hG⟩ : ∃ A, E.sync = A := ⟨_, rfl⟩
        have hR := HR.out
        rw [hG] at hR D5 ⊢
        change DAt w5 p X4 G at D5
        change (if r ≠ 0 then (r, G, (⟨n, decide (r = 19)⟩ : Lg)) else (0, G, ⟨n + 1, false⟩)) = R at hR
        have HR := Bx.mk hR
        have hz5 := S5.size
        have hz4 : w.heap.size + 2 ≤ w4.heap.size := by have := Sw.size; have h1 := World.block_lt_of_cell? _ _ ce4; simp at h1; omega
        have g5 := g4.step S5 q4
        have cl5 : w5.cell? ⟨w.heap.size, 0, none⟩ = some (.pointer (some ⟨q, 0, none⟩)) := by
          have := S5.block w.heap.size (by omega) xl4
          unfold World.cell? at cl4 ⊢
          rw [this]
          exact cl4
        have ce5 : w5.cell? ⟨w.heap.size + 1, 0, none⟩ = some (.int .i64 0) := by
          have := S5.block (w.heap.size + 1) (by omega) xe4
          unfold World.cell? at ce4 ⊢
          rw [this]
          exact ce4
        have fe5 : w5.frozen? ⟨w.heap.size + 1, 0, none⟩ = false := by
          have h1 := S5.block (w.heap.size + 1) (by omega) xe4
          unfold World.frozen? at fe4 ⊢
          rw [h1]
          exact fe4
        have Sw5 := Sw.trans (S5.wide fun b => b = q)
        have ce5' := fun v => World.cell?_setCell_same w5 ⟨w.heap.size + 1, 0, none⟩ v ce5
        have cl6 : ∀ v, (w5.setCell ⟨w.heap.size + 1, 0, none⟩ v).cell? ⟨w.heap.size, 0, none⟩ = some (.pointer (some ⟨q, 0, none⟩)) := fun v => (World.cell?_setCell_other _ _ _ _ (by simp)).trans cl5
        clear hR hG S5 D4 c04 g4 ce4 cl4 fe4
        by_cases hr : r = 0
        · subst hr
          have hR := HR.out
          rw [if_neg (by simp)] at hR
          have c2 := g5.c2
          have f2 := g5.fz 2
          have hw : IntKind.i64.wrap ((n : Int) + 1) = ((n + 1 : Nat) : Int) := by rw [IntKind.wrap_i64]; omega
          have hm : ((n + 1 : Nat) : Int) = (n : Int) + 1 := by omega
          have g6 := g5.more
          rw [hm] at g6
          go_wp2_with fail
          have ce6 : (w5.setCell ⟨q, 2, none⟩ (.int .i64 ((n : Int) + 1))).cell? ⟨w.heap.size + 1, 0, none⟩ = some (.int .i64 0) := (World.cell?_setCell_other _ _ _ _ (fun e => absurd (congrArg Addr.off e) (by simp))).trans ce5
          have cl7 : ((w5.setCell ⟨q, 2, none⟩ (.int .i64 ((n : Int) + 1))).setCell ⟨w.heap.size + 1, 0, none⟩ (.int .i64 0)).cell? ⟨w.heap.size, 0, none⟩ = some (.pointer (some ⟨q, 0, none⟩)) :=
            (World.cell?_setCell_other _ _ _ _ (by simp)).trans ((World.cell?_setCell_other _ _ _ _ (fun e => absurd (congrArg Addr.off e) (by simp))).trans cl5)
          refine logdown_door rfl (World.cell?_setCell_same _ _ _ ce6) cl7 (by omega) (g6.set (by omega) _) ((D5.set q4 _).set xe4 _) q4 ((Sw5.set (.inl (.inr rfl)) _).set (.inr (by omega)) _) (fun w6 hg6 hD6 hS6 => ?_)
          rw [← hR]
          exact ⟨rfl, X4, hD6, hg6, q4, hS6⟩
        · have hR := HR.out
          rw [if_pos hr] at hR
          go_wp2_with fail
          refine logdown_door rfl (ce5' _) (cl6 _) (by omega) (g5.set (by omega) _) (D5.set xe4 _) q4 (Sw5.set (.inr (by omega)) _) (fun w6 hg6 hD6 hS6 => ?_)
          rw [← hR]
          exact ⟨rfl, X4, hD6, hg6, q4, hS6⟩
      · have hR := HR.out
        rw [if_pos hr] at hR
        go_wp2_with fail
        refine logdown_door rfl (ce4' _) (cl5 _) (by omega) (g5 _) (D5 _) q4 (Sw.set (.inr (by omega)) _) (fun w5 hg5 hD5 hS5 => ?_)
        rw [← hR]
        exact ⟨rfl, X4, hD5, hg5, q4, hS5⟩
    · rw [hd] at c3
      have hR := HR.out
      rw [hd, if_pos rfl] at hR
      go_wp2_with fail
      refine ⟨.int .i64 19, by simp [results, Try.results17, go_sem, cs], ?_⟩
      rw [← hR]
      exact ⟨rfl, X, D2.set hXe _, g2.set hqe _, hq, (DStep.ofBelow _ B2).set (.inr (by omega)) _⟩
end Go.Proofs.Ytpehnggglolnoaa
