/- The model's desk in memory; what it reads. -/
import Derived.Test.YtpehnggglolnoaaEdB
import Derived.Deep.QuietTactic
namespace Go.Proofs.Ytpehnggglolnoaa
open Go.RowKit

theorem Try.infoEd : (Try.prog.info? 45).map (fun i => (i.zero, i.size, i.bytes)) = some (some (.agg #[.int .i64 0, .int .i64 0, .slice none 0 0]), 3, 40) := by kernel_rfl
theorem Try.elEd : Elem Try.prog 39 45 (.agg #[.int .i64 0, .int .i64 0, .slice none 0 0]) 3 40 := ⟨Try.underlying39, Try.infoEd, rfl, by decide, by decide⟩
/-- An item and where its symbols lie. -/
structure ItV where
  x : It
  ao : Option Addr
  c : Nat
def ItV.ed (p : ItV) : EdV := ⟨p.x.e, p.ao, p.c⟩
def ItV.cells (p : ItV) : List Value := [.int .i64 (p.x.c : Int), .int .i64 (p.x.n : Int), .int .i64 (p.x.b : Int), .int .i64 p.x.e.a, .int .i64 p.x.e.d, p.ed.ins]
theorem Try.infoIt : (Try.prog.info? 47).map (fun i => (i.size, i.bytes)) = some (6, 64) := by kernel_rfl
def edcells (l : List EdV) : List Value := l.flatMap EdV.cells
def itcells (l : List ItV) : List Value := l.flatMap ItV.cells
theorem edcells_len (l : List EdV) : (edcells l).length = l.length * 3 := by
  induction l with
  | nil => rfl
  | cons p l ih =>
    have : edcells (p :: l) = p.cells ++ edcells l := rfl
    rw [this, List.length_append, ih, List.length_cons]
    simp [EdV.cells]
    omega
theorem itcells_len (l : List ItV) : (itcells l).length = l.length * 6 := by
  induction l with
  | nil => rfl
  | cons p l ih =>
    have : itcells (p :: l) = p.cells ++ itcells l := rfl
    rw [this, List.length_append, ih, List.length_cons]
    simp [ItV.cells]
    omega
theorem edcells_at : ∀ (l : List EdV) (i j : Nat) (q : EdV), l[i]? = some q → j < 3 → (edcells l)[i * 3 + j]? = q.cells[j]?
  | [], i, j, q, h, _ => by simp at h
  | p :: l, 0, j, q, h, hj => by
    simp only [List.getElem?_cons_zero, Option.some.injEq] at h
    subst h
    have : edcells (p :: l) = p.cells ++ edcells l := rfl
    rw [this, List.getElem?_append_left (by simp [EdV.cells]; omega)]
    congr 1
    omega
  | p :: l, i + 1, j, q, h, hj => by
    have h2 := edcells_at l i j q (by simpa using h) hj
    have : edcells (p :: l) = p.cells ++ edcells l := rfl
    rw [this, List.getElem?_append_right (by simp [EdV.cells]; omega)]
    rw [← h2]
    congr 1
    simp [EdV.cells]
    omega
theorem itcells_at : ∀ (l : List ItV) (i j : Nat) (q : ItV), l[i]? = some q → j < 6 → (itcells l)[i * 6 + j]? = q.cells[j]?
  | [], i, j, q, h, _ => by simp at h
  | p :: l, 0, j, q, h, hj => by
    simp only [List.getElem?_cons_zero, Option.some.injEq] at h
    subst h
    have : itcells (p :: l) = p.cells ++ itcells l := rfl
    rw [this, List.getElem?_append_left (by simp [ItV.cells]; omega)]
    congr 1
    omega
  | p :: l, i + 1, j, q, h, hj => by
    have h2 := itcells_at l i j q (by simpa using h) hj
    have : itcells (p :: l) = p.cells ++ itcells l := rfl
    rw [this, List.getElem?_append_right (by simp [ItV.cells]; omega)]
    rw [← h2]
    congr 1
    simp [ItV.cells]
    omega
/-- What is read, and lies apart from what is written. -/
structure Frz (w : World) (Z : Nat → Prop) (v : Value) (n : Nat) (us : List Value) : Prop where
  rv : Rv w v n us
  off : Off v Z
  low : ∀ g, v.ownBlock = some g → g < w.heap.size
section
variable {w w' : World} {Z Z' : Nat → Prop} {v : Value} {n : Nat} {us : List Value}
theorem Frz.step (h : Frz w Z v n us) (S : DStep Z Z' w w') : Frz w' Z' v n us :=
  ⟨rv_step h.rv S h.off, fun b hb hx => (S.grow b hx).elim (h.off b hb) (fun h1 => by have := h.low b hb; omega), fun g hg => Nat.lt_of_lt_of_le (h.low g hg) S.size⟩
theorem Frz.later (h : Frz w Z v n us) (B : Below w.heap.size w w') : Frz w' Z v n us := h.step (DStep.ofBelow Z B)
theorem Frz.less (h : Frz w Z v n us) (hZ : ∀ b, Z' b → Z b) : Frz w Z' v n us := ⟨h.rv, fun b hb hx => h.off b hb (hZ b hx), h.low⟩
theorem Frz.of {base size : Nat} {e : TypeId} (h : w.ownsRow base e size v n us) (hZ : ∀ b, Z b → b < base) : Frz w Z v n us := ⟨Rv.of_own h, fun b hb hx => by have := (h.lt b hb).1; have := hZ b hx; omega, fun g hg => (h.lt g hg).2⟩
theorem DStep.wideL (S : DStep Z Z' w w') (A : Nat → Prop) : DStep (fun b => A b ∨ Z b) (fun b => A b ∨ Z' b) w w' :=
  ⟨S.os, S.tape, S.output, S.size, fun k hk hX => S.block k hk (fun h => hX (.inr h)), fun k h => h.elim (fun h => .inl (.inl h)) (fun h => (S.grow k h).elim (fun h => .inl (.inr h)) .inr)⟩
/-- An append to a row of one's own. -/
theorem DStep.grown {v' : Value} (hg : w.grownBy w' v.ownBlock) (hs : SameOrNew w v v') : DStep (fun b => v.ownBlock = some b) (fun b => v'.ownBlock = some b) w w' :=
  ⟨hg.os, hg.tape, hg.output, hg.size, fun k hk hX => hg.block k hk (fun e => hX e.symm), fun k hk => by
    rcases hs with hs | hs
    · exact .inl (by rw [← hs]; exact hk)
    · exact .inr (hs k hk)⟩
theorem own_notBlk {base size b : Nat} {e T : TypeId} {cs : Array Value} {z : Nat × Nat} (h : w.ownsRow base e size v n us) (hb : w.heap[b]? = some (.cells cs T z)) (hne : e ≠ T) : v.ownBlock ≠ some b := by
  intro hg
  obtain ⟨_, ⟨rfl, _⟩ | ⟨g1, cap, cur, rfl, _, hk, _⟩⟩ := h
  · cases hg
  cases hg
  rw [hb] at hk
  cases hk
  exact hne rfl
end

theorem rvAt {α : Type} {W : World} {n c i : Nat} {a : Option Addr} {l : List α} {f : α → Value} {k : α} (h : Rv W (.slice a n c) n (l.map f)) (hk : l[i]? = some k) : ∃ g off, a = some ⟨g, off, none⟩ ∧ W.cell? ⟨g, off + i, none⟩ = some (f k) := by
  obtain ⟨a', c', e, _, hr⟩ := h.opened
  injection e with e1
  rw [← e1] at hr
  exact hr.cell (i := i) (u := f k) (by rw [List.getElem?_map, hk]; rfl)
/-- How many there are of a number. -/
def cntN (cs : List Nat) (c : Nat) : Nat := (cs.filter (· == c)).length
theorem cntN_its (its : List It) (c : Nat) : cntN (its.map (·.c)) c = nxI its c := by
  unfold cntN nxI
  rw [List.filter_map, List.length_map]
  rfl
theorem cntN_snoc (cs : List Nat) (c : Nat) (i : Nat) (hi : i < cs.length) : cntN (cs.take (i + 1)) c = cntN (cs.take i) c + if cs[i] = c then 1 else 0 := by
  unfold cntN
  rw [List.take_succ_eq_append_getElem hi, List.filter_append, List.length_append]
  by_cases h : cs[i] = c
  · simp [h]
  · simp [h]
theorem cntN_le (cs : List Nat) (c : Nat) : cntN cs c ≤ cs.length := List.length_filter_le _ _
/-- A desk: what was applied, of which clients, what is held. -/
structure DeskX (w : World) (B dk : Nat) (va vc vh : Value) (l : List EdV) (cs : List Nat) (hs : List ItV) : Prop where
  blk : w.heap[dk]? = some (.cells #[va, vc, vh] 41 (0, 0))
  oa : w.ownsRow B 45 3 va l.length (edcells l)
  oc : w.ownsRow B 3 1 vc cs.length (cs.map fun c : Nat => Value.int .i64 (c : Int))
  oh : w.ownsRow B 47 6 vh hs.length (itcells hs)
  lo : B ≤ dk
section
variable {w w' : World} {B dk : Nat} {va vc vh : Value} {l : List EdV} {cs : List Nat} {hs : List ItV}
theorem DeskX.lt (h : DeskX w B dk va vc vh l cs hs) : dk < w.heap.size := (Array.getElem?_eq_some_iff.1 h.blk).1
theorem DeskX.c0 (h : DeskX w B dk va vc vh l cs hs) : w.cell? ⟨dk, 0, none⟩ = some va := by simp [World.cell?, h.blk]
theorem DeskX.c1 (h : DeskX w B dk va vc vh l cs hs) : w.cell? ⟨dk, 1, none⟩ = some vc := by simp [World.cell?, h.blk]
theorem DeskX.c2 (h : DeskX w B dk va vc vh l cs hs) : w.cell? ⟨dk, 2, none⟩ = some vh := by simp [World.cell?, h.blk]
theorem DeskX.fz (h : DeskX w B dk va vc vh l cs hs) (j : Nat) : w.frozen? ⟨dk, j, none⟩ = false := by simp [World.frozen?, h.blk]
theorem DeskX.later (h : DeskX w B dk va vc vh l cs hs) (b : Below w.heap.size w w') : DeskX w' B dk va vc vh l cs hs := ⟨(b.block _ h.lt).trans h.blk, own_below h.oa b, own_below h.oc b, own_below h.oh b, h.lo⟩
end
set_option maxRecDepth 10000 in
set_option maxHeartbeats 1000000 in
theorem next_any (w : World) {B dk : Nat} {va vc vh : Value} {l : List EdV} {cs : List Nat} {hs : List ItV} (h : DeskX w B dk va vc vh l cs hs) (c : Nat) (hc : c ≤ 1000) (hl : cs.length ≤ 1000) :
    Calls Try.prog 49 #[.pointer (some ⟨dk, 0, none⟩), .int .i64 (c : Int)] w fun e w' => e = .returned (.int .i64 (cntN cs c : Int)) ∧ w' = w := by
  have c1 := h.c1
  have hrd := Rv.of_own h.oc
  obtain ⟨a1, p1, rfl, _, _⟩ := hrd.opened
  obtain ⟨r, hr⟩ : ∃ r, cntN cs c = r := ⟨_, rfl⟩
  rw [hr]
  have HR := Bx.mk hr
  have HH := Bx.mk h
  clear h hr
  go_enter Try.func49, Try.ntmps49
  go_wp2_with fail
  go_loopw [5, 6] (fun nv iv wr => ∃ i k : Nat, iv = .int .i64 (i : Int) ∧ nv = .int .i64 (k : Int) ∧ i ≤ cs.length ∧ k ≤ i ∧ Bx (cntN (cs.take i) c = k) ∧ w = wr) (fun _ iv _ => cs.length - (intOf iv).toNat)
  case atStart => exact ⟨0, 0, rfl, rfl, Nat.zero_le _, Nat.le_refl _, ⟨rfl⟩, rfl⟩
  case round =>
    obtain ⟨i, k, rfl, rfl, hi, hki, HK, rfl⟩ := hrel
    by_cases hlt : i < cs.length
    · obtain ⟨b2, off2, he, hcx⟩ := rvAt hrd (List.getElem?_eq_getElem hlt)
      subst he
      have hsn := cntN_snoc cs c i hlt
      rw [HK.out] at hsn
      obtain ⟨x, hx⟩ : ∃ x, cs[i] = x := ⟨_, rfl⟩
      rw [hx] at hcx hsn
      clear hx
      by_cases hxc : x = c
      · subst hxc
        rw [if_pos rfl] at hsn
        have HS := Bx.mk hsn
        clear hsn
        go_wp2_with fail
        go_roundw
        case rel => exact ⟨i + 1, k + 1, by go_num, by go_num, by omega, by omega, HS, by trivial⟩
        case measure => simp [intOf]; omega
      · rw [if_neg hxc] at hsn
        have HS := Bx.mk hsn
        have hne : ((x : Int) == (c : Int)) = false := beq_eq_false_iff_ne.2 (by omega)
        clear hsn
        go_wp2_with fail
        go_roundw
        case rel => exact ⟨i + 1, k, by go_num, by go_num, by omega, by omega, HS, by trivial⟩
        case measure => simp [intOf]; omega
    · obtain rfl : i = cs.length := by omega
      have hk := HK.out
      rw [List.take_length, HR.out] at hk
      subst hk
      clear HK HR
      go_wp2_with fail
      go_ret
      exact ⟨rfl, rfl⟩
set_option maxRecDepth 10000 in
set_option maxHeartbeats 1000000 in
theorem formed_any (p : EdV) (w : World) (hp : SmE p.e) (hr : Rv w p.ins p.e.s.length (p.e.s.map (Value.int .i64))) (hs : ∀ x ∈ p.e.s, 0 ≤ x ∧ x ≤ 1000) :
    Calls Try.prog 52 #[p.val] w fun e w' => e = .returned (.bool true) ∧ Below w.heap.size w w' := by
  obtain ⟨⟨a, d, s⟩, ao, c⟩ := p
  obtain ⟨⟨h1, h2, h3⟩, h4⟩ := hp
  unfold EdV.val EdV.ins Ed.val at *
  simp only at h1 h2 h3 h4 hr hs ⊢
  have B0 : Below w.heap.size w (w.alloc (.cells #[.int .i64 a, .int .i64 d, .slice ao s.length c] 45)) := (Below.refl _ w).alloc (Nat.le_refl _) _
  have C0 := Box3.new w (.int .i64 a) (.int .i64 d) (.slice ao s.length c)
  have k0 := C0.k0
  have k1 := C0.k1
  have k2 := C0.k2
  have hr0 := hr.below B0
  have HS := Bx.mk hs
  clear hs
  go_enter Try.func52, Try.ntmps52
  go_wp2_with fail
  obtain ⟨w0, hw0⟩ : ∃ w0, w.alloc (.cells #[.int .i64 a, .int .i64 d, .slice ao s.length c] 45) = w0 := ⟨_, rfl⟩
  rw [hw0] at B0 C0 k0 k1 k2 hr0 ⊢
  clear hw0
  go_loopw [3] (fun iv wr => ∃ i : Nat, iv = .int .i64 (i : Int) ∧ i ≤ s.length ∧ w0 = wr) (fun iv _ => s.length - (intOf iv).toNat)
  case atStart => exact ⟨0, rfl, Nat.zero_le _, rfl⟩
  case round =>
    obtain ⟨i, rfl, hi, rfl⟩ := hrel
    by_cases hlt : i < s.length
    · obtain ⟨b2, off2, he, hcx⟩ := rvAt hr0 (List.getElem?_eq_getElem hlt)
      subst he
      obtain ⟨x1, x2⟩ := HS.out s[i] (List.getElem_mem hlt)
      obtain ⟨x, hx⟩ : ∃ x, s[i] = x := ⟨_, rfl⟩
      rw [hx] at hcx x1 x2
      clear hx
      go_wp2_with fail
      go_roundw
      case rel => exact ⟨i + 1, by go_num, by omega, by trivial⟩
      case measure => simp [intOf]; omega
    · obtain rfl : i = s.length := by omega
      go_wp2_with fail
      go_ret
      exact ⟨rfl, B0⟩
set_option maxRecDepth 10000 in
theorem ready0_any (w : World) {B dk : Nat} {va vc : Value} {l : List EdV} {cs : List Nat} (h : DeskX w B dk va vc (.slice none 0 0) l cs []) :
    Calls Try.prog 53 #[.pointer (some ⟨dk, 0, none⟩)] w fun e w' => e = .returned (.int .i64 (-1)) ∧ Below w.heap.size w w' := by
  have c2 := h.c2
  go_enter Try.func53, Try.ntmps53
  go_wp2_with fail
  go_loopw [3, 4] (fun bv iv wr => bv = .int .i64 (-1) ∧ iv = .int .i64 0 ∧ w = wr) (fun _ _ _ => 0)
  case atStart => exact ⟨rfl, rfl, rfl⟩
  case round =>
    obtain ⟨rfl, rfl, rfl⟩ := hrel
    go_wp2_with fail
    go_ret
    exact ⟨rfl, Below.refl _ _⟩
/-- The item that is held alone. -/
theorem DeskX.one {w : World} {B dk : Nat} {va vc vh : Value} {l : List EdV} {cs : List Nat} {x : ItV} (h : DeskX w B dk va vc vh l cs [x]) : ∃ g c, vh = .slice (some ⟨g, 0, none⟩) 1 c ∧ ∀ j, j < 6 → w.cell? ⟨g, j, none⟩ = x.cells[j]? := by
  obtain ⟨g, c, rfl⟩ := ownsRow_succ h.oh
  refine ⟨g, c, rfl, fun j hj => ?_⟩
  have := h.oh.cellAt (j := j) (by simp; omega)
  rw [this]
  have := itcells_at [x] 0 j x rfl hj
  rwa [Nat.zero_mul, Nat.zero_add] at this
set_option maxRecDepth 10000 in
set_option maxHeartbeats 1000000 in
theorem ready1_any (w : World) {B dk : Nat} {va vc vh : Value} {l : List EdV} {cs : List Nat} {x : ItV} (h : DeskX w B dk va vc vh l cs [x]) (hn : x.x.n = cntN cs x.x.c) (hb : x.x.b ≤ l.length) (hc : x.x.c ≤ 1000) (hcs : cs.length ≤ 1000) :
    Calls Try.prog 53 #[.pointer (some ⟨dk, 0, none⟩)] w fun e w' => e = .returned (.int .i64 0) ∧ Below w.heap.size w w' := by
  have c2 := h.c2
  have c0 := h.c0
  obtain ⟨g, cap, rfl, hcell⟩ := h.one
  obtain ⟨⟨c, n, b, ⟨a, d, s⟩⟩, ao, ac⟩ := x
  simp only at hn hb hc
  have g0 : w.cell? ⟨g, 0, none⟩ = some (.int .i64 (c : Int)) := hcell 0 (by omega)
  have g1 : w.cell? ⟨g, 1, none⟩ = some (.int .i64 (n : Int)) := hcell 1 (by omega)
  have g2 : w.cell? ⟨g, 2, none⟩ = some (.int .i64 (b : Int)) := hcell 2 (by omega)
  have g3 : w.cell? ⟨g, 3, none⟩ = some (.int .i64 a) := hcell 3 (by omega)
  have g4 : w.cell? ⟨g, 4, none⟩ = some (.int .i64 d) := hcell 4 (by omega)
  have g5 : w.cell? ⟨g, 5, none⟩ = some (.slice ao s.length ac) := hcell 5 (by omega)
  obtain ⟨ka, aa, ca, rfl⟩ := own_shape h.oa
  obtain rfl : ka = l.length := own_k h.oa
  have HN := Bx.mk hn
  have HH := Bx.mk h
  clear h hcell hn
  go_enter Try.func53, Try.ntmps53
  go_wp2_with fail
  go_loopw [3, 4] (fun bv iv wr => (bv = .int .i64 (-1) ∧ iv = .int .i64 0 ∧ w = wr) ∨ (bv = .int .i64 0 ∧ iv = .int .i64 1 ∧ Below w.heap.size w wr)) (fun _ iv _ => 1 - (intOf iv).toNat)
  case atStart => exact .inl ⟨rfl, rfl, rfl⟩
  case round =>
    rcases hrel with ⟨rfl, rfl, rfl⟩ | ⟨rfl, rfl, hB⟩
    · go_upto_region 6 with fail
      have B1 := (Below.refl w.heap.size w).alloc (Nat.le_refl _) (.cells #[.int .i64 (c : Int), .int .i64 (n : Int), .int .i64 (b : Int), .int .i64 a, .int .i64 d, .slice ao s.length ac] 47)
      have X1 := World.alloc_heap_new w (.cells #[.int .i64 (c : Int), .int .i64 (n : Int), .int .i64 (b : Int), .int .i64 a, .int .i64 d, .slice ao s.length ac] 47)
      generalize w.alloc (.cells #[.int .i64 (c : Int), .int .i64 (n : Int), .int .i64 (b : Int), .int .i64 a, .int .i64 d, .slice ao s.length ac] 47) = w1 at B1 X1 ⊢
      have H1 := HH.out.later B1
      have hq : ∀ W : World, (∃ k, W = w1.drewN k) → Calls Try.prog 49 #[.pointer (some ⟨dk, 0, none⟩), .int .i64 (c : Int)] W fun e w' => e = .returned (.int .i64 (n : Int)) ∧ w' = W := fun W hW => by
        obtain ⟨k, rfl⟩ := hW
        rw [HN.out]
        exact next_any _ (H1.later (belD (Below.refl _ _) k)) c hc hcs
      have HQ := Bx.mk hq
      have x0 : w1.cell? ⟨w.heap.size, 0, none⟩ = some (.int .i64 (c : Int)) := by simp [World.cell?, X1]
      have x1 : w1.cell? ⟨w.heap.size, 1, none⟩ = some (.int .i64 (n : Int)) := by simp [World.cell?, X1]
      have x2 : w1.cell? ⟨w.heap.size, 2, none⟩ = some (.int .i64 (b : Int)) := by simp [World.cell?, X1]
      have c01 := H1.c0
      clear hq c0 c2 g0 g1 g2 g3 g4 g5
      go_quiet ((go_at_call 49; exact Calls.quiet_of_same (HQ.out _ ⟨_, rfl⟩)))
      have B2 := belD B1 nq
      generalize w1.drewN nq = w2 at B2 ⊢
      go_wp2_with fail
      go_quiet (fail)
      have B3 := belD B2 nq
      go_wp2_with fail
      go_roundw
      case rel => exact .inr ⟨rfl, rfl, B3⟩
      case measure => simp [intOf]
    · have hlt := HH.out.lt
      have c2 := (hB.cell (p := ⟨dk, 2, none⟩) hlt).trans c2
      go_wp2_with fail
      go_ret
      exact ⟨rfl, hB⟩
end Go.Proofs.Ytpehnggglolnoaa
