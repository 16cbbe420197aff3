/- Several texts in one: PlB PlC PlD PlE. -/
import Derived.Test.YtfdacckkdjpjhaaPlA
import Derived.BigQuiet
import Derived.Deep.CutRange
import Derived.StillTailTactics
import Derived.Deep.QuietTactic
import Derived.Deep.RegionHeld3
/- Package pool: no, wrong, running, holds. -/
namespace Go.Proofs.Ytfdacckkdjpjhaa
open Go.RowKit

def Pl.no (D : Pl) (x : Int) : Bool := decide (x < 0 ∨ (D.ws.length : Int) ≤ x)
def Pl.wrong (D : Pl) (x t : Int) : Int := if D.no x = true ∨ t < 0 ∨ 1099511627776 < t then 1 else if t < D.tick then 16 else 0
def Pl.run (D : Pl) (e : En) (t : Int) : Bool := !e.done && !e.lost && (match e.tries.getLast? with | none => false | some x => decide (t < x.2 + D.timeout))
section
variable {p mb : Nat} {wv : Value} {F : Int → Option Value} {ks : List Int} {B : Int → Nat} {TV BV AV : Int → Value} {X R : Nat → Prop} {D : Pl}
set_option maxRecDepth 10000 in
theorem no_any (x : Int) (w : World) (h : PX w p mb wv F ks B TV BV AV X R D) :
    Calls Try.prog 70 #[.pointer (some ⟨p, 0, none⟩), .int .i64 x] w fun e w' => e = .returned (.bool (D.no x)) ∧ w' = w := by
  have c2 := h.c2
  have hl := h.ok.wsl
  obtain ⟨a, c, rfl⟩ := own_isSlice h.row
  unfold Pl.no
  obtain ⟨n, hn⟩ : ∃ n, D.ws.length = n := ⟨_, rfl⟩
  rw [hn] at c2 hl ⊢
  clear hn
  go_enter Try.func70, Try.ntmps70
  by_cases h1 : x < 0
  · rw [decide_eq_true (.inl h1)]
    go_wp2
    go_ret
    exact ⟨rfl, rfl⟩
  · by_cases h2 : (n : Int) ≤ x
    · rw [decide_eq_true (.inr h2)]
      go_wp2
      go_ret
      exact ⟨rfl, rfl⟩
    · rw [decide_eq_false (fun h => h.elim h1 h2)]
      go_wp2
      go_ret
      exact ⟨rfl, rfl⟩
set_option maxRecDepth 10000 in
theorem wrong_any (x t : Int) (w : World) (h : PX w p mb wv F ks B TV BV AV X R D) :
    Calls Try.prog 50 #[.pointer (some ⟨p, 0, none⟩), .int .i64 x, .int .i64 t] w fun e w' => e = .returned (.int .i64 (D.wrong x t)) ∧ w' = w := by
  have c1 := h.c1
  have hno := no_any x w h
  unfold Pl.wrong
  obtain ⟨b, hb⟩ : ∃ b, D.no x = b := ⟨_, rfl⟩
  rw [hb] at hno ⊢
  obtain ⟨k, hk⟩ : ∃ k, D.tick = k := ⟨_, rfl⟩
  rw [hk] at c1 ⊢
  have HN := Bx.mk hno
  obtain ⟨r, hr⟩ : ∃ r : Int, (if b = true ∨ t < 0 ∨ 1099511627776 < t then 1 else if t < k then 16 else 0) = r := ⟨_, rfl⟩
  rw [hr]
  have HR := Bx.mk hr
  clear hb hk hno hr
  go_enter Try.func50, Try.ntmps50
  go_wp2_with fail
  refine HN.out.mono ?_
  rintro e w1 ⟨rfl, rfl⟩
  have hr := HR.out
  clear HR HN
  cases b
  · by_cases h1 : t < 0
    · rw [if_pos (.inr (.inl h1))] at hr
      subst hr
      go_wp2
      go_ret
      exact ⟨rfl, rfl⟩
    · by_cases h2 : 1099511627776 < t
      · rw [if_pos (.inr (.inr h2))] at hr
        subst hr
        go_wp2
        go_ret
        exact ⟨rfl, rfl⟩
      · rw [if_neg (by simp; omega)] at hr
        by_cases h3 : t < k
        · rw [if_pos h3] at hr
          subst hr
          go_wp2
          go_ret
          exact ⟨rfl, rfl⟩
        · rw [if_neg h3] at hr
          subst hr
          go_wp2
          go_ret
          exact ⟨rfl, rfl⟩
  · rw [if_pos (.inl rfl)] at hr
    subst hr
    go_wp2
    go_ret
    exact ⟨rfl, rfl⟩
theorem last_of {l : List (Int × Int)} {n : Nat} (h : l.length = n + 1) : ∃ t, l[n]? = some t ∧ l.getLast? = some t := by
  have e : l[n]? = some l[n] := List.getElem?_eq_getElem (by omega)
  refine ⟨_, e, ?_⟩
  rw [List.getLast?_eq_getElem?, show l.length - 1 = n by omega]
  exact e
set_option maxRecDepth 10000 in
set_option maxHeartbeats 1000000 in
theorem running_any (k : Int) (e : En) (t : Int) (w : World) (h : PX w p mb wv F ks B TV BV AV X R D) (hk : D.ts k = some e) :
    Calls Try.prog 52 #[.pointer (some ⟨p, 0, none⟩), .pointer (some ⟨B k, 0, none⟩), .int .i64 t] w fun en w' => en = .returned (.bool (D.run e t)) ∧ ∃ n, w' = w.drewN n := by
  have c0 := h.c0
  have e1 := h.e hk 1 _ rfl
  have e2 := h.e hk 2 _ rfl
  have e3 := h.e hk 3 _ rfl
  have hto := h.ok.tmo
  have htr := h.ok.tri k e hk
  have htk := h.ok.tck
  obtain ⟨a, c, hT⟩ := own_isSlice (h.tr k e hk).1
  rw [hT] at e1
  obtain ⟨r, hr⟩ : ∃ r, D.run e t = r := ⟨_, rfl⟩
  rw [hr]
  unfold Pl.run at hr
  have HR := Bx.mk hr
  clear hr
  go_enter Try.func52, Try.ntmps52
  cases hd : e.done
  · cases hl : e.lost
    · rw [hd] at e3
      rw [hl] at e2
      have hr := HR.out
      rw [hd, hl] at hr
      cases hn : e.tries.length with
      | zero =>
        have h0 : e.tries = [] := List.eq_nil_of_length_eq_zero hn
        rw [h0] at hr
        change false = r at hr
        subst hr
        rw [hn] at e1
        clear htr h hk hT HR
        go_wp2
        go_ret
        exact ⟨rfl, 0, rfl⟩
      | succ n =>
        obtain ⟨x, hx, hlast⟩ := last_of hn
        rw [hlast] at hr
        change decide (t < x.2 + D.timeout) = r at hr
        obtain ⟨g, c', hT', hlc, hcm, hc1, hc2⟩ := h.try hk hx
        rw [hT] at hT'
        injection hT' with q1 q2 q3
        subst q1 q3
        have hxt := htr x (List.mem_of_getElem? hx)
        rw [hn] at e1 hlc
        obtain ⟨bk, hbk⟩ : ∃ b, B k = b := ⟨_, rfl⟩
        rw [hbk] at e1 e2 e3 ⊢
        obtain ⟨tmo, hto'⟩ : ∃ b, D.timeout = b := ⟨_, rfl⟩
        rw [hto'] at c0 hto hr
        obtain ⟨x1, x2⟩ := x
        simp only at hc1 hc2 hxt hr
        have hx2 : x2 ≤ 1099511627776 := by omega
        have hx0 : 0 ≤ x2 := hxt.2.1
        have hw : IntKind.i64.wrap (x2 + tmo) = x2 + tmo := by rw [IntKind.wrap_i64]; omega
        have hwn : IntKind.i64.wrap (n : Int) = (n : Int) := by rw [IntKind.wrap_i64]; unfold maxLen at hcm; omega
        have HR := Bx.mk hr
        clear htr h hk hT hx hlast hn hbk hto' q2 hxt hr hc1 hcm
        go_wp2_with fail
        go_quiet (fail)
        go_wp2_with fail
        go_ret
        rw [← HR.out]
        exact ⟨rfl, nq, rfl⟩
    · rw [hd] at e3
      rw [hl] at e2
      have hr := HR.out
      rw [hd, hl] at hr
      change false = r at hr
      subst hr
      clear htr h hk HR
      go_wp2
      go_ret
      exact ⟨rfl, 0, rfl⟩
  · rw [hd] at e3
    have hr := HR.out
    rw [hd] at hr
    change false = r at hr
    subst hr
    clear htr h hk HR
    go_wp2
    go_ret
    exact ⟨rfl, 0, rfl⟩
/-- What holds returns. -/
def HoldsPost (w : World) (D : Pl) (B : Int → Nat) (i : Nat) (v : Wk) (en : Ending) (w' : World) : Prop :=
  Below w.heap.size w w' ∧ ((v.has = false ∧ en = .returned (.tuple #[.pointer none, .bool false])) ∨
    (v.has = true ∧ ∃ e t, D.ts v.task = some e ∧ e.tries.getLast? = some t ∧ en = .returned (.tuple #[.pointer (some ⟨B v.task, 0, none⟩), .bool (t.1 == (i : Int))])))
theorem zero_ent (W : World) : (zeroValue 99).run Try.prog W = .ok (.pointer none) W := by kernel_rfl
theorem Try.underlyingPM : Try.prog.underlying 96 = some (.map 3 99) := Try.underlying96
theorem PX.look {w : World} (h : PX w p mb wv F ks B TV BV AV X R D) (k : Int) (ok : Bool) (W : World) (hW : W.heap = w.heap) : (Instr.lookup 96 (.map (some mb)) (.int .i64 k) ok).run Try.prog W = .ok (if ok then .tuple #[(F k).getD (.pointer none), .bool (F k).isSome] else (F k).getD (.pointer none)) W :=
  (h.map.kept (by rw [hW])).lookup (P := Try.prog) (K := 3) (e := 99) Try.underlyingPM (by kernel_rfl) (zero_ent W) k ok
set_option maxRecDepth 10000 in
set_option maxHeartbeats 1000000 in
theorem holds_any (i : Nat) (v : Wk) (hv : D.ws[i]? = some v) (w : World) (h : PX w p mb wv F ks B TV BV AV X R D) :
    Calls Try.prog 51 #[.pointer (some ⟨p, 0, none⟩), .int .i64 (i : Int)] w (HoldsPost w D B i v) := by
  have c2 := h.c2
  have c3 := h.c3
  obtain ⟨g, c, hw, hc, k0, k1, k2⟩ := h.wk hv
  have hi := (List.getElem?_eq_some_iff.1 hv).1
  have hl := h.ok.wsl
  have hh := h.ok.has i v hv
  rw [hw] at c2
  obtain ⟨n, hn⟩ : ∃ n, D.ws.length = n := ⟨_, rfl⟩
  rw [hn] at hi hl hc c2
  obtain ⟨d, b, k⟩ := v
  simp only at k0 k1 k2 hh
  have hi2 : (i : Int) < (n : Int) := by omega
  have HV := Bx.mk hv
  clear hv hn hw
  go_enter Try.func51, Try.ntmps51
  cases b
  · go_wp2_with fail
    go_ret2
    exact ⟨(Below.refl _ w).alloc (Nat.le_refl _) _, .inl ⟨rfl, rfl⟩⟩
  · obtain ⟨e, he, hne⟩ := hh rfl
    obtain ⟨m, hm⟩ : ∃ m, e.tries.length = m + 1 := ⟨e.tries.length - 1, by have := List.length_pos_iff.2 hne; omega⟩
    obtain ⟨t, ht, hlast⟩ := last_of hm
    have hF := (h.en k e he).1
    have hlk := h.look k false
    rw [hF] at hlk
    obtain ⟨gt, ct, hT, hlc, hcm, t1, _⟩ := h.try he ht
    have e1 := h.e he 1 _ rfl
    rw [hT, hm] at e1
    rw [hm] at hlc
    obtain ⟨bk, hbk⟩ : ∃ b, B k = b := ⟨_, rfl⟩
    rw [hbk] at e1 hlk
    have hwn : IntKind.i64.wrap (m : Int) = (m : Int) := by rw [IntKind.wrap_i64]; unfold maxLen at hcm; omega
    have hp : p < w.heap.size := h.lt
    have A := (Below.refl w.heap.size w).alloc (Nat.le_refl _) (.cells #[.bool d, .bool true, .int .i64 k] 105)
    have c3a := (A.cell (p := ⟨p, 3, none⟩) (World.block_lt_of_cell? _ _ c3)).trans c3
    have e1a := (A.cell (p := ⟨bk, 1, none⟩) (World.block_lt_of_cell? _ _ e1)).trans e1
    have t1a := (A.cell (p := ⟨gt, m * 2, none⟩) (World.block_lt_of_cell? _ _ t1)).trans t1
    have hlk2 : ∀ W, W.heap[mb]? = w.heap[mb]? → (Instr.lookup 96 (.map (some mb)) (.int .i64 k) false).run Try.prog W = .ok (.pointer (some ⟨bk, 0, none⟩)) W := fun W hW => by
      have := (h.map.kept (w' := W) hW).lookup (P := Try.prog) (K := 3) (e := 99) Try.underlyingPM (by kernel_rfl) (zero_ent W) k false
      rw [hF, hbk] at this
      exact this
    have hmb := h.xl mb h.xm
    have HLK := Bx.mk hlk2
    have HHE := Bx.mk he
    have HBK := Bx.mk hbk
    have HLA := Bx.mk hlast
    clear hlk hlk2 hF h he ht hlast hT hne hm hbk hh c3 e1 t1 hcm
    go_upto_region 4 with fail
    have hs : (w.alloc (.cells #[.bool d, .bool true, .int .i64 k] 105)).heap.size = w.heap.size + 1 := World.size_alloc _ _
    have k2a : (w.alloc (.cells #[.bool d, .bool true, .int .i64 k] 105)).cell? ⟨w.heap.size, 2, none⟩ = some (.int .i64 k) := by simp [go_sem]
    obtain ⟨W1, hW1⟩ : ∃ W, w.alloc (.cells #[.bool d, .bool true, .int .i64 k] 105) = W := ⟨_, rfl⟩
    rw [hW1] at A c3a e1a t1a k2a ⊢
    have lk4 := HLK.out W1 (A.block mb hmb)
    have lk4d := HLK.out W1.drew (A.block mb hmb)
    have A := A.drew
    clear hW1 hs k0 k1 k2 c2
    go_still_tail 6, (by kernel_rfl)
    change wpList _ _ _ _ _ W1.drew
    have e1a : W1.drew.cell? ⟨bk, 1, none⟩ = _ := e1a
    have t1a : W1.drew.cell? ⟨gt, m * 2, none⟩ = _ := t1a
    generalize W1.drew = W2 at A e1a t1a lk4d ⊢
    clear c3a k2a lk4
    go_upto_region 5 with fail
    go_quiet (fail)
    go_wp2_with fail
    go_ret2
    exact ⟨belD A nq, .inr ⟨rfl, e, t, HHE.out, HLA.out, by rw [← HBK.out]; rfl⟩⟩
end
end Go.Proofs.Ytfdacckkdjpjhaa

/- Package pool: what a write leaves; Revive, Die. -/
namespace Go.Proofs.Ytfdacckkdjpjhaa
open Go.RowKit

/-- The type of a block's cells. -/
def kindOf : Obj → Option TypeId
  | .cells _ t _ => some t
  | _ => none
def kindAt (w : World) (b : Nat) : Option (Option TypeId) := (w.heap[b]?).map kindOf
theorem own_kind {w : World} {base size n : Nat} {e : TypeId} {v : Value} {xs : List Value} (h : w.ownsRow base e size v n xs) {g : Nat} (hg : v.ownBlock = some g) : kindAt w g = some (some e) := by
  obtain ⟨_, ⟨rfl, _⟩ | ⟨g1, cap, cur, rfl, _, hk, _⟩⟩ := h
  · cases hg
  · cases hg
    unfold kindAt
    rw [hk]
    rfl
section
variable {w w' : World} {p mb : Nat} {wv : Value} {F : Int → Option Value} {ks : List Int} {B : Int → Nat} {TV BV AV : Int → Value} {X R X' Z : Nat → Prop} {D : Pl}
theorem PX.kp (h : PX w p mb wv F ks B TV BV AV X R D) : kindAt w p = some (some 98) := by unfold kindAt; rw [h.blk]; rfl
theorem PX.km (h : PX w p mb wv F ks B TV BV AV X R D) : kindAt w mb = some none := by
  obtain ⟨arr, clock, hb, _⟩ := h.map.ex
  unfold kindAt
  rw [hb]
  rfl
theorem PX.kw (h : PX w p mb wv F ks B TV BV AV X R D) {g : Nat} (hg : wv.ownBlock = some g) : kindAt w g = some (some 105) := own_kind h.row hg
theorem PX.ke (h : PX w p mb wv F ks B TV BV AV X R D) {k : Int} {e : En} (hk : D.ts k = some e) : kindAt w (B k) = some (some 103) := by unfold kindAt; rw [(h.en k e hk).2.1]; rfl
theorem PX.kt (h : PX w p mb wv F ks B TV BV AV X R D) {k : Int} {e : En} (hk : D.ts k = some e) {g : Nat} (hg : (TV k).ownBlock = some g) : kindAt w g = some (some 112) := own_kind (h.tr k e hk).1 hg
theorem kind_ne {w : World} {a b : Nat} {x y : Option TypeId} (ha : kindAt w a = some x) (hb : kindAt w b = some y) (hn : x ≠ y) : a ≠ b := fun e => by
  rw [e, hb] at ha
  exact hn (Option.some.inj ha).symm
/-- The pool's own cells turned. -/
theorem PX.turnP (h : PX w p mb wv F ks B TV BV AV X R D) {D' : Pl} (hb : w'.heap[p]? = some (plO D' wv mb)) (hs : w.heap.size ≤ w'.heap.size) (ho : ∀ b, b < w.heap.size → b ≠ p → w'.heap[b]? = w.heap[b]?) (hw : D'.ws = D.ws) (ht : D'.ts = D.ts) (ok : POk D') : PX w' p mb wv F ks B TV BV AV X R D' := by
  have hX := fun b (hb : X b) (hn : b ≠ p) => ho b (h.xl b hb) hn
  have hR := fun b (hb : R b) => ho b (h.rl b hb) (fun e => h.sep p h.xp (by rw [← e]; exact hb))
  refine ⟨hb, h.map.kept (hX mb h.xm (kind_ne h.km h.kp (by decide))), by rw [hw]; exact own_same h.row (fun b hb => hX b (h.xw b hb) (kind_ne (h.kw hb) h.kp (by decide))), by rw [ht]; exact h.emp,
    fun k e hk => ?_, fun k e hk => ?_, fun k e hk => ?_, by rw [ht]; exact h.inj, by rw [ht]; exact h.tsep, h.xp, h.xm, h.xw, h.sep, fun b hb => Nat.lt_of_lt_of_le (h.xl b hb) hs, fun b hb => Nat.lt_of_lt_of_le (h.rl b hb) hs, ok⟩
  all_goals rw [ht] at hk
  · exact ⟨(h.en k e hk).1, (hX _ (h.en k e hk).2.2 (kind_ne (h.ke hk) h.kp (by decide))).trans (h.en k e hk).2.1, (h.en k e hk).2.2⟩
  · exact ⟨own_same (h.tr k e hk).1 (fun b hb => hX b ((h.tr k e hk).2 b hb) (kind_ne (h.kt hk hb) h.kp (by decide))), (h.tr k e hk).2⟩
  · exact ⟨⟨rvSame (h.bd k e hk).1.1 (fun g _ hg => hR g ((h.bd k e hk).1.2 g hg)), (h.bd k e hk).1.2⟩, rvSame (h.bd k e hk).2.1 (fun g _ hg => hR g ((h.bd k e hk).2.2 g hg)), (h.bd k e hk).2.2⟩
/-- The tick is set. -/
theorem PX.tick (h : PX w p mb wv F ks B TV BV AV X R D) (t : Int) (ht : D.tick ≤ t ∧ t ≤ 1099511627776) : PX (w.setCell ⟨p, 1, none⟩ (.int .i64 t)) p mb wv F ks B TV BV AV X R { D with tick := t } := by
  have hb := h.blk
  unfold plO at hb
  have ok := h.ok
  refine h.turnP (D' := { D with tick := t }) ?_ (by rw [World.size_setCell]; exact Nat.le_refl _) (fun b _ hn => Below.heap_setCell _ _ _ _ hn) rfl rfl
    ⟨ok.ord, ok.mem, ok.idr, ok.many, ok.tmo, ⟨by have := ok.tck; show 0 ≤ t; omega, ht.2⟩, ok.wsl, ok.bod, fun k e hk x hx => ⟨(ok.tri k e hk x hx).1, (ok.tri k e hk x hx).2.1, by have := (ok.tri k e hk x hx).2.2; show x.2 ≤ t; omega⟩, ok.has⟩
  unfold plO
  simp [World.setCell, Array.getElem?_modify, hb]
theorem wcells_set (l : List Wk) : ∀ (i j : Nat) (v v' : Wk) (u : Value), l[i]? = some v → j < 3 → v.cells.set j u = v'.cells → (wcells l).set (i * 3 + j) u = wcells (l.set i v') := by
  induction l with
  | nil => intro i j v v' u h; cases h
  | cons x l ih =>
    intro i j v v' u h hj he
    have hl : x.cells.length = 3 := rfl
    cases i with
    | zero =>
      cases h
      show (x.cells ++ wcells l).set (0 * 3 + j) u = v'.cells ++ wcells l
      rw [Nat.zero_mul, Nat.zero_add, List.set_append_left _ _ (by omega), he]
    | succ i =>
      rw [List.getElem?_cons_succ] at h
      show (x.cells ++ wcells l).set ((i + 1) * 3 + j) u = x.cells ++ wcells (l.set i v')
      rw [List.set_append_right _ _ (by omega), hl, show (i + 1) * 3 + j - 3 = i * 3 + j by omega, ih i j v v' u h hj he]
/-- A cell of the workers' row is set. -/
theorem PX.worker (h : PX w p mb wv F ks B TV BV AV X R D) {g n c i j : Nat} (hwv : wv = .slice (some ⟨g, 0, none⟩) n c) {v v' : Wk} {u : Value} (hv : D.ws[i]? = some v) (hj : j < 3) (hu : v.cells.set j u = v'.cells) (ok : POk { D with ws := D.ws.set i v' }) :
    PX (w.setCell ⟨g, i * 3 + j, none⟩ u) p mb wv F ks B TV BV AV X R { D with ws := D.ws.set i v' } := by
  have hg : wv.ownBlock = some g := by rw [hwv]; rfl
  have hs := World.size_setCell w ⟨g, i * 3 + j, none⟩ u
  have ho := fun b (hn : b ≠ g) => Below.heap_setCell w ⟨g, i * 3 + j, none⟩ u b hn
  have hR := fun b (hb : R b) => ho b (fun e => h.sep g (h.xw g hg) (by rw [← e]; exact hb))
  refine ⟨(ho p (kind_ne h.kp (h.kw hg) (by decide))).trans h.blk, h.map.kept (ho mb (kind_ne h.km (h.kw hg) (by decide))), ?_, h.emp,
    fun k e hk => ⟨(h.en k e hk).1, (ho _ (kind_ne (h.ke hk) (h.kw hg) (by decide))).trans (h.en k e hk).2.1, (h.en k e hk).2.2⟩,
    fun k e hk => ⟨own_same (h.tr k e hk).1 (fun b hb => ho b (kind_ne (h.kt hk hb) (h.kw hg) (by decide))), (h.tr k e hk).2⟩,
    fun k e hk => ⟨⟨rvSame (h.bd k e hk).1.1 (fun g _ hg => hR g ((h.bd k e hk).1.2 g hg)), (h.bd k e hk).1.2⟩, rvSame (h.bd k e hk).2.1 (fun g _ hg => hR g ((h.bd k e hk).2.2 g hg)), (h.bd k e hk).2.2⟩,
    h.inj, h.tsep, h.xp, h.xm, h.xw, h.sep, fun b hb => by rw [hs]; exact h.xl b hb, fun b hb => by rw [hs]; exact h.rl b hb, ok⟩
  show World.ownsRow _ 0 _ 3 wv (D.ws.set i v').length (wcells (D.ws.set i v'))
  rw [List.length_set, ← wcells_set D.ws i j v v' u hv hj hu]
  have hr := h.row
  rw [hwv] at hr ⊢
  have e : n = D.ws.length := own_k hr
  subst e
  exact (hr.stored (i * 3 + j) u).1
/-- An entry's block turned. -/
theorem PX.entry (h : PX w p mb wv F ks B TV BV AV X R D) {k : Int} {e e' : En} (hk : D.ts k = some e) (ht : e'.tries = e.tries) (hbd : e'.body = e.body) (ha : e'.ans.body = e.ans.body) (hb : w'.heap[B k]? = some (enO e' (BV k) (TV k) (AV k))) (hs : w'.heap.size = w.heap.size) (ho : ∀ b, b ≠ B k → w'.heap[b]? = w.heap[b]?)
    (ok : POk { D with ts := fun j => if j = k then some e' else D.ts j }) : PX w' p mb wv F ks B TV BV AV X R { D with ts := fun j => if j = k then some e' else D.ts j } := by
  have hX : X (B k) := (h.en k e hk).2.2
  have hR := fun b (hb : R b) => ho b (fun q => h.sep _ hX (by rw [← q]; exact hb))
  have old : ∀ j f, (if j = k then some e' else D.ts j) = some f → ∃ f0, D.ts j = some f0 ∧ f.tries = f0.tries ∧ f.body = f0.body ∧ f.ans.body = f0.ans.body ∧ (j ≠ k → f = f0) := fun j f hf => by
    by_cases q : j = k
    · rw [if_pos q] at hf
      cases hf
      subst q
      exact ⟨e, hk, ht, hbd, ha, fun n => absurd rfl n⟩
    · rw [if_neg q] at hf
      exact ⟨f, hf, rfl, rfl, rfl, fun _ => rfl⟩
  refine ⟨(ho p (kind_ne h.kp (h.ke hk) (by decide))).trans h.blk, h.map.kept (ho mb (kind_ne h.km (h.ke hk) (by decide))), own_same h.row (fun b hb => ho b (kind_ne (h.kw hb) (h.ke hk) (by decide))), fun j hj => ?_,
    fun j f hf => ?_, fun j f hf => ?_, fun j f hf => ?_, fun i j f f' hf hf' q => ?_, fun i j f f' b hf hf' q q' => ?_, h.xp, h.xm, h.xw, h.sep, fun b hb => by rw [hs]; exact h.xl b hb, fun b hb => by rw [hs]; exact h.rl b hb, ok⟩
  · by_cases q : j = k
    · simp [q] at hj
    · simp only [if_neg q] at hj
      exact h.emp j hj
  · obtain ⟨f0, h0, _, _, _, hn⟩ := old j f hf
    obtain ⟨h1, h2, h3⟩ := h.en j f0 h0
    refine ⟨h1, ?_, h3⟩
    by_cases q : j = k
    · subst q
      have : f = e' := by simpa using hf.symm
      rw [this]
      exact hb
    · rw [hn q]
      exact (ho _ (fun q2 => q (h.inj j k f0 e h0 hk q2))).trans h2
  · obtain ⟨f0, h0, h1, _⟩ := old j f hf
    rw [h1]
    exact ⟨own_same (h.tr j f0 h0).1 (fun b hb => ho b (kind_ne (h.kt h0 hb) (h.ke hk) (by decide))), (h.tr j f0 h0).2⟩
  · obtain ⟨f0, h0, _, h2, h3, _⟩ := old j f hf
    rw [h2, h3]
    exact ⟨⟨rvSame (h.bd j f0 h0).1.1 (fun g _ hg => hR g ((h.bd j f0 h0).1.2 g hg)), (h.bd j f0 h0).1.2⟩, rvSame (h.bd j f0 h0).2.1 (fun g _ hg => hR g ((h.bd j f0 h0).2.2 g hg)), (h.bd j f0 h0).2.2⟩
  · obtain ⟨f0, h0, _⟩ := old i f hf
    obtain ⟨f1, h1, _⟩ := old j f' hf'
    exact h.inj i j f0 f1 h0 h1 q
  · obtain ⟨f0, h0, _⟩ := old i f hf
    obtain ⟨f1, h1, _⟩ := old j f' hf'
    exact h.tsep i j f0 f1 b h0 h1 q q'
end
end Go.Proofs.Ytfdacckkdjpjhaa

/- Package pool: Revive, Die. -/
namespace Go.Proofs.Ytfdacckkdjpjhaa
open Go.RowKit

def Pl.revive (D : Pl) (x : Int) : Int × Pl :=
  if D.no x = true then (1, D) else match D.ws[x.toNat]? with
  | none => (1, D)
  | some v => if v.dead = true then (0, { D with ws := D.ws.set x.toNat { v with dead := false } }) else (20, D)
/-- The tasks when worker i, which is v, dies. -/
def Pl.lose (D : Pl) (i : Nat) (v : Wk) : Pl :=
  if v.has = true then match D.ts v.task with
    | none => D
    | some e => match e.tries.getLast? with
      | none => D
      | some t => if t.1 = (i : Int) then { D with ts := fun j => if j = v.task then some { e with lost := true } else D.ts j } else D
  else D
def Pl.die (D : Pl) (x t : Int) : Int × Pl :=
  if D.wrong x t ≠ 0 then (D.wrong x t, D) else match D.ws[x.toNat]? with
  | none => (1, D)
  | some v => if v.dead = true then (20, D) else (0, { D.lose x.toNat v with tick := t, ws := D.ws.set x.toNat ⟨true, false, v.task⟩ })
theorem yes_worker {D : Pl} {x : Int} (h : D.no x = false) : ∃ (i : Nat) (v : Wk), x = (i : Int) ∧ i < D.ws.length ∧ D.ws[i]? = some v := by
  have := of_decide_eq_false h
  refine ⟨x.toNat, D.ws[x.toNat]'(by omega), by omega, by omega, List.getElem?_eq_getElem _⟩
theorem wrong_ok {D : Pl} {x t : Int} (h : D.wrong x t = 0) : D.no x = false ∧ 0 ≤ t ∧ t ≤ 1099511627776 ∧ D.tick ≤ t := by
  unfold Pl.wrong at h
  split at h
  · cases h
  · rename_i h1
    split at h
    · cases h
    · rename_i h2
      refine ⟨by
        cases h3 : D.no x
        · rfl
        · exact absurd (.inl h3) h1, by omega, by omega, by omega⟩
theorem ok_worker {D : Pl} (h : POk D) {i : Nat} {v v' : Wk} (hv : D.ws[i]? = some v) (hh : v'.has = true → ∃ e, D.ts v'.task = some e ∧ e.tries ≠ []) : POk { D with ws := D.ws.set i v' } := by
  refine ⟨h.ord, h.mem, h.idr, h.many, h.tmo, h.tck, by show 1 ≤ (D.ws.set i v').length ∧ (D.ws.set i v').length ≤ 64; rw [List.length_set]; exact h.wsl, h.bod, fun k e hk t ht => ?_, fun j u hu hb => ?_⟩
  · have := h.tri k e hk t ht
    show (0 ≤ t.1 ∧ t.1 < ((D.ws.set i v').length : Int)) ∧ _
    rw [List.length_set]
    exact this
  · by_cases e : i = j
    · subst e
      have hi := (List.getElem?_eq_some_iff.1 hv).1
      change (D.ws.set i v')[i]? = some u at hu
      rw [List.getElem?_set_self hi] at hu
      cases hu
      exact hh hb
    · change (D.ws.set i v')[j]? = some u at hu
      rw [List.getElem?_set_ne e] at hu
      exact h.has j u hu hb
theorem ok_entry {D : Pl} (h : POk D) {k : Int} {e e' : En} (hk : D.ts k = some e) (ht : e'.tries = e.tries) (hb : e'.body.length ≤ 65536 ∧ e'.ans.body.length ≤ 65536) : POk { D with ts := fun j => if j = k then some e' else D.ts j } := by
  refine ⟨h.ord, fun j => ?_, h.idr, h.many, h.tmo, h.tck, h.wsl, fun j f hf => ?_, fun j f hf t htt => ?_, fun j u hu hh => ?_⟩
  · rw [h.mem j]
    show _ ↔ ∃ f, (if j = k then some e' else D.ts j) = some f
    by_cases q : j = k
    · subst q
      simp [hk]
    · simp [q]
  · change (if j = k then some e' else D.ts j) = some f at hf
    by_cases q : j = k
    · rw [if_pos q] at hf; cases hf; exact hb
    · rw [if_neg q] at hf; exact h.bod j f hf
  · change (if j = k then some e' else D.ts j) = some f at hf
    by_cases q : j = k
    · rw [if_pos q] at hf; cases hf; rw [ht] at htt; exact h.tri k e hk t htt
    · rw [if_neg q] at hf; exact h.tri j f hf t htt
  · obtain ⟨f, hf, hn⟩ := h.has j u hu hh
    by_cases q : u.task = k
    · refine ⟨e', by show (if u.task = k then some e' else D.ts u.task) = _; rw [if_pos q], ?_⟩
      rw [q, hk] at hf
      cases hf
      rw [ht]
      exact hn
    · exact ⟨f, by show (if u.task = k then some e' else D.ts u.task) = _; rw [if_neg q]; exact hf, hn⟩
section
variable {p : Nat} {X R : Nat → Prop} {D : Pl}
set_option maxRecDepth 10000 in
set_option maxHeartbeats 1000000 in
theorem revive_any (x : Int) (w : World) (h : PAt w p X R D) :
    Calls Try.prog 40 #[.pointer (some ⟨p, 0, none⟩), .int .i64 x] w fun e w' => e = .returned (.int .i64 (D.revive x).1) ∧ PAt w' p X R (D.revive x).2 ∧ DStep X X w w' := by
  obtain ⟨mb, wv, F, ks, B, TV, BV, AV, h⟩ := h
  have hno := no_any x w h
  obtain ⟨O, hO⟩ : ∃ O, D.revive x = O := ⟨_, rfl⟩
  rw [hO]
  unfold Pl.revive at hO
  obtain ⟨b, hb⟩ : ∃ b, D.no x = b := ⟨_, rfl⟩
  rw [hb] at hno hO
  have HO := Bx.mk hO
  have HN := Bx.mk hno
  have HH := Bx.mk h
  clear hO hno
  go_enter Try.func40, Try.ntmps40
  cases b
  · obtain ⟨i, v, rfl, hi, hv⟩ := yes_worker hb
    obtain ⟨g, c, hw, hc, k0, k1, k2⟩ := h.wk hv
    have c2 := h.c2
    rw [hw] at c2
    have hO := HO.out
    rw [if_neg (by simp), Int.toNat_natCast, hv] at hO
    simp only at hO
    have hcf : ∀ j, w.frozen? ⟨g, j, none⟩ = false := fun j => by
      have hr := h.row
      rw [hw] at hr
      exact hr.frozenAt j
    have HW := Bx.mk hw
    obtain ⟨n, hn⟩ : ∃ n, D.ws.length = n := ⟨_, rfl⟩
    rw [hn] at hi hc c2
    have HNL := Bx.mk hn
    have hi2 : (i : Int) < (n : Int) := by omega
    have HV := Bx.mk hv
    have fz := hcf (i * 3)
    clear h hw hcf hb hn hv
    cases hd : v.dead
    · rw [hd] at k0 hO
      rw [if_neg (by simp)] at hO
      go_wp2_with fail
      refine HN.out.mono ?_
      rintro e w1 ⟨rfl, rfl⟩
      go_wp2_with fail
      go_ret
      rw [← hO]
      exact ⟨rfl, ⟨_, _, _, _, _, _, _, _, HH.out⟩, DStep.refl _ _⟩
    · rw [hd] at k0 hO
      rw [if_pos rfl] at hO
      go_wp2_with fail
      refine HN.out.mono ?_
      rintro e w1 ⟨rfl, rfl⟩
      go_wp2_with fail
      go_ret
      rw [← hO]
      have hg : wv.ownBlock = some g := by rw [HW.out]; rfl
      refine ⟨rfl, ⟨_, _, _, _, _, _, _, _, HH.out.worker (j := 0) (v := v) (v' := { v with dead := false }) HW.out HV.out (by decide) rfl (ok_worker HH.out.ok HV.out (fun hh => HH.out.ok.has i v HV.out hh))⟩, (DStep.refl X _).set (.inl (HH.out.xw g hg)) _⟩
  · have hO := HO.out
    rw [if_pos rfl] at hO
    go_wp2_with fail
    refine HN.out.mono ?_
    rintro e w1 ⟨rfl, rfl⟩
    go_wp2_with fail
    go_ret
    rw [← hO]
    exact ⟨rfl, ⟨_, _, _, _, _, _, _, _, HH.out⟩, DStep.refl _ _⟩
theorem set_set {l : List Wk} {i : Nat} {a b : Wk} : (l.set i a).set i b = l.set i b := List.set_set ..
/-- The last stores of Die. -/
theorem die_end {w : World} {mb : Nat} {wv : Value} {F : Int → Option Value} {ks : List Int} {B : Int → Nat} {TV BV AV : Int → Value} (h : PX w p mb wv F ks B TV BV AV X R D) {g n c i : Nat} (hwv : wv = .slice (some ⟨g, 0, none⟩) n c) {v : Wk} (hv : D.ws[i]? = some v) {t : Int} (ht : D.tick ≤ t ∧ t ≤ 1099511627776) :
    PAt (((w.setCell ⟨p, 1, none⟩ (.int .i64 t)).setCell ⟨g, i * 3, none⟩ (.bool true)).setCell ⟨g, i * 3 + 1, none⟩ (.bool false)) p X R { D with tick := t, ws := D.ws.set i ⟨true, false, v.task⟩ } ∧
      DStep X X w (((w.setCell ⟨p, 1, none⟩ (.int .i64 t)).setCell ⟨g, i * 3, none⟩ (.bool true)).setCell ⟨g, i * 3 + 1, none⟩ (.bool false)) := by
  have hg : wv.ownBlock = some g := by rw [hwv]; rfl
  have hX := h.xw g hg
  have hi := (List.getElem?_eq_some_iff.1 hv).1
  have h1 := h.tick t ht
  have h2 := h1.worker (j := 0) (v := v) (v' := { v with dead := true }) hwv hv (by decide) rfl (ok_worker h1.ok hv (fun hh => h1.ok.has i v hv hh))
  have hv2 : (D.ws.set i { v with dead := true })[i]? = some { v with dead := true } := List.getElem?_set_self hi
  have h3 := h2.worker (j := 1) (v := { v with dead := true }) (v' := ⟨true, false, v.task⟩) hwv hv2 (by decide) rfl (ok_worker h2.ok hv2 (fun hh => by cases hh))
  simp only [List.set_set] at h3
  exact ⟨⟨_, _, _, _, _, _, _, _, h3⟩, (((DStep.refl X w).set (.inl h.xp) _).set (.inl hX) _).set (.inl hX) _⟩
set_option maxRecDepth 10000 in
set_option maxHeartbeats 1000000 in
theorem die_any (x t : Int) (w : World) (h : PAt w p X R D) :
    Calls Try.prog 38 #[.pointer (some ⟨p, 0, none⟩), .int .i64 x, .int .i64 t] w fun e w' => e = .returned (.int .i64 (D.die x t).1) ∧ PAt w' p X R (D.die x t).2 ∧ DStep X X w w' := by
  obtain ⟨mb, wv, F, ks, B, TV, BV, AV, h⟩ := h
  have hno := wrong_any x t w h
  obtain ⟨O, hO⟩ : ∃ O, D.die x t = O := ⟨_, rfl⟩
  rw [hO]
  unfold Pl.die at hO
  obtain ⟨b, hb⟩ : ∃ b, D.wrong x t = b := ⟨_, rfl⟩
  rw [hb] at hno hO
  have HO := Bx.mk hO
  have HN := Bx.mk hno
  have HH := Bx.mk h
  clear hO hno
  go_enter Try.func38, Try.ntmps38
  by_cases hb0 : b = 0
  · subst hb0
    obtain ⟨hn0, ht0, ht1, ht2⟩ := wrong_ok hb
    obtain ⟨i, v, rfl, hi, hv⟩ := yes_worker hn0
    obtain ⟨g, c, hw, hc, k0, k1, k2⟩ := h.wk hv
    have c2 := h.c2
    rw [hw] at c2
    have hO := HO.out
    rw [if_neg (by simp), Int.toNat_natCast, hv] at hO
    simp only at hO
    have HHO := Bx.mk (holds_any i v hv w h)
    have hcf : ∀ j, w.frozen? ⟨g, j, none⟩ = false := fun j => by
      have hr := h.row
      rw [hw] at hr
      exact hr.frozenAt j
    have hpf := h.fz 1
    have hpl := h.lt
    have hgl := h.xl g (h.xw g (by rw [hw]; rfl))
    have hpg : p ≠ g := kind_ne h.kp (h.kw (g := g) (by rw [hw]; rfl)) (by decide)
    have c1 := h.c1
    have HW := Bx.mk hw
    obtain ⟨n, hn⟩ : ∃ n, D.ws.length = n := ⟨_, rfl⟩
    rw [hn] at hi hc c2
    have HNL := Bx.mk hn
    have hi2 : (i : Int) < (n : Int) := by omega
    have HV := Bx.mk hv
    have HT := Bx.mk (And.intro ht2 ht1)
    clear h hw hb hn hv hn0
    cases hd : v.dead
    · rw [hd] at k0 hO
      rw [if_neg (by simp)] at hO
      have HO2 := Bx.mk hO
      clear hO HO
      go_wp2_with fail
      refine HN.out.mono ?_
      rintro e w1 ⟨rfl, rfl⟩
      go_wp2_with fail
      refine HHO.out.mono ?_
      rintro e w2 ⟨B2, hp⟩
      have H2 := HH.out.later B2
      have c1 := H2.c1
      have c2 := H2.c2
      obtain ⟨g', c', hw', _, k0, k1, _⟩ := H2.wk HV.out
      rw [HW.out] at hw'
      injection hw' with q1 q2 q3
      injection q1 with q4
      injection q4 with q5
      subst q5 q3
      rw [HW.out, HNL.out] at c2
      have S2 := DStep.ofBelow X B2
      have fzg : ∀ j, w2.frozen? ⟨g, j, none⟩ = false := fun j => by
        have hr := H2.row
        rw [HW.out] at hr
        exact hr.frozenAt j
      have fzp := H2.fz 1
      have fz0 := fzg (i * 3)
      have fz1 := fzg (i * 3 + 1)
      have HH2 := Bx.mk H2
      rcases hp with ⟨hh, rfl⟩ | ⟨hh, e, t1, he, hlast, rfl⟩
      · have hl : D.lose i v = D := by unfold Pl.lose; rw [hh, if_neg (by simp)]
        have hO := HO2.out
        rw [hl] at hO
        clear H2 hl HHO HN fzg
        go_wp2_with fail
        go_ret
        rw [← hO]
        obtain ⟨E1, E2⟩ := die_end HH2.out HW.out HV.out HT.out
        exact ⟨rfl, E1, S2.trans E2⟩
      · have hl : D.lose i v = if t1.1 = (i : Int) then { D with ts := fun j => if j = v.task then some { e with lost := true } else D.ts j } else D := by unfold Pl.lose; rw [hh, if_pos rfl, he]; simp only; rw [hlast]
        have hO := HO2.out
        rw [hl] at hO
        by_cases ht : t1.1 = (i : Int)
        · rw [if_pos ht] at hO
          have hbq : (t1.1 == (i : Int)) = true := by rw [beq_iff_eq]; exact ht
          rw [hbq]
          have e2 := H2.e he 2 _ rfl
          have f2 := H2.efz he 2
          have hbk := (H2.en _ _ he).2.1
          have hbp : B v.task ≠ p := kind_ne (H2.ke he) H2.kp (by decide)
          have hbg : B v.task ≠ g := kind_ne (H2.ke he) (H2.kw (g := g) (by rw [HW.out]; rfl)) (by decide)
          have hXb := (H2.en _ _ he).2.2
          have H3 := H2.entry (w' := w2.setCell ⟨B v.task, 2, none⟩ (.bool true)) (e' := { e with lost := true }) he rfl rfl rfl (by unfold enO at hbk ⊢; simp [World.setCell, Array.getElem?_modify, hbk]) (World.size_setCell _ _ _) (fun b hb => Below.heap_setCell _ _ _ _ hb) (ok_entry H2.ok he rfl (H2.ok.bod _ e he))
          have c13 := H3.c1
          have c23 := H3.c2
          rw [HW.out, HNL.out] at c23
          obtain ⟨g', c', hw', _, k03, k13, _⟩ := H3.wk HV.out
          rw [HW.out] at hw'
          injection hw' with q1 q2 q3
          injection q1 with q4
          injection q4 with q5
          subst q5 q3
          have fzp3 := H3.fz 1
          have fz3 : ∀ j, (w2.setCell ⟨B v.task, 2, none⟩ (.bool true)).frozen? ⟨g, j, none⟩ = false := fun j => by
            have hr := H3.row
            rw [HW.out] at hr
            exact hr.frozenAt j
          have fz30 := fz3 (i * 3)
          have fz31 := fz3 (i * 3 + 1)
          have HH3 := Bx.mk H3
          have HX := Bx.mk hXb
          obtain ⟨bk, hbk'⟩ : ∃ b, B v.task = b := ⟨_, rfl⟩
          have HBK := Bx.mk hbk'
          rw [hbk'] at e2 f2 hbp hbg c13 c23 k03 k13 fzp3 fz30 fz31 ⊢
          have S3 := S2.set (b := bk) (i := 2) (.inl (by rw [← hbk']; exact hXb)) (.bool true)
          clear H2 H3 hl HHO HN fzg fz3 hbk hlast hXb hbk' c1 c2 k0 k1 fzp fz0 fz1 ht hbq q2 he hh
          go_wp2_with fail
          go_ret
          rw [← hO]
          have H3 := HH3.out
          rw [HBK.out] at H3
          obtain ⟨E1, E2⟩ := die_end H3 HW.out HV.out HT.out
          exact ⟨rfl, E1, S3.trans E2⟩
        · rw [if_neg ht] at hO
          have hbq : (t1.1 == (i : Int)) = false := by rw [beq_eq_false_iff_ne]; exact ht
          rw [hbq]
          clear H2 hl HHO HN fzg hlast ht hbq he
          go_wp2_with fail
          go_ret
          rw [← hO]
          obtain ⟨E1, E2⟩ := die_end HH2.out HW.out HV.out HT.out
          exact ⟨rfl, E1, S2.trans E2⟩
    · rw [hd] at k0 hO
      rw [if_pos rfl] at hO
      go_wp2_with fail
      refine HN.out.mono ?_
      rintro e w1 ⟨rfl, rfl⟩
      go_wp2_with fail
      go_ret
      rw [← hO]
      exact ⟨rfl, ⟨_, _, _, _, _, _, _, _, HH.out⟩, DStep.refl _ _⟩
  · have hO := HO.out
    rw [if_pos hb0] at hO
    go_wp2_with fail
    refine HN.out.mono ?_
    rintro e w1 ⟨rfl, rfl⟩
    go_wp2_with fail
    go_ret
    rw [← hO]
    exact ⟨rfl, ⟨_, _, _, _, _, _, _, _, HH.out⟩, DStep.refl _ _⟩
end
end Go.Proofs.Ytfdacckkdjpjhaa

/- Package pool: New. -/
namespace Go.Proofs.Ytfdacckkdjpjhaa
open Go.RowKit

def newPl (n : Nat) (t : Int) : Pl := ⟨t, 0, List.replicate n ⟨false, false, 0⟩, [], fun _ => none⟩
theorem wcells_len (l : List Wk) : (wcells l).length = 3 * l.length := by
  induction l with
  | nil => rfl
  | cons x l ih =>
    show (x.cells ++ wcells l).length = _
    rw [List.length_append, ih, List.length_cons, show x.cells.length = 3 from rfl]
    omega
theorem wcells_made (n : Nat) : (madeCells #[.bool false, .bool false, .int .i64 0] (n * 3)).toList = wcells (List.replicate n ⟨false, false, 0⟩) := by
  apply List.ext_getElem?
  intro i
  have hl : (madeCells #[Value.bool false, .bool false, .int .i64 0] (n * 3)).toList.length = n * 3 := by rw [Array.length_toList, size_madeCells]
  by_cases hi : i < n * 3
  · obtain ⟨q, r, hr, rfl⟩ : ∃ q r, r < 3 ∧ i = 3 * q + r := ⟨i / 3, i % 3, by omega, by omega⟩
    have hq : (List.replicate n (⟨false, false, 0⟩ : Wk))[q]? = some ⟨false, false, 0⟩ := by rw [List.getElem?_replicate, if_pos (by omega)]
    obtain ⟨h0, h1, h2⟩ := wcells_at _ _ _ hq
    have hm : (madeCells #[Value.bool false, .bool false, .int .i64 0] (n * 3)).toList[3 * q + r]? = some (#[Value.bool false, .bool false, .int .i64 0][r]!) := by
      rw [Array.getElem?_toList]
      unfold madeCells
      rw [Array.getElem?_map, Array.getElem?_range, if_pos hi]
      have : (3 * q + r) % 3 = r := by omega
      simp only [Option.map_some, Option.some.injEq]
      show #[Value.bool false, .bool false, .int .i64 0][(3 * q + r) % 3]! = _
      rw [this]
    rw [hm]
    rcases (show r = 0 ∨ r = 1 ∨ r = 2 by omega) with h3 | h3 | h3
    · subst h3; exact h0.symm
    · subst h3; exact h1.symm
    · subst h3; exact h2.symm
  · rw [List.getElem?_eq_none (by omega), List.getElem?_eq_none (by rw [wcells_len, List.length_replicate]; omega)]
theorem own_made {W : World} (base n : Nat) (hb : base ≤ W.heap.size) (hn : n ≤ maxLen) : (W.alloc (.cells (madeCells #[.bool false, .bool false, .int .i64 0] (n * 3)) 105)).ownsRow base 105 3 (.slice (some ⟨W.heap.size, 0, none⟩) n n) n (wcells (List.replicate n ⟨false, false, 0⟩)) := by
  rw [← wcells_made]
  exact ⟨by rw [Array.length_toList, size_madeCells], .inr ⟨W.heap.size, n, _, rfl, hb, World.alloc_heap_new W _, Nat.le_refl _, hn, size_madeCells _ _, List.take_of_length_le (by rw [Array.length_toList, size_madeCells]; exact Nat.le_refl _)⟩⟩
theorem newPl_ok {n : Nat} {t : Int} (hn : 1 ≤ n ∧ n ≤ 64) (ht : 1 ≤ t ∧ t ≤ 1099511627776) : POk (newPl n t) :=
  ⟨List.Pairwise.nil, fun k => ⟨(fun h => by cases h), (fun ⟨e, h⟩ => by cases h)⟩, (fun _ h => by cases h), Nat.zero_le _, ht, ⟨by show (0 : Int) ≤ 0; omega, by show (0 : Int) ≤ _; omega⟩, by show 1 ≤ (List.replicate n _).length ∧ (List.replicate n _).length ≤ 64; rw [List.length_replicate]; exact hn,
    (fun _ _ h => by cases h), (fun _ _ h => by cases h), fun i v hv hh => by
      have := List.mem_of_getElem? hv
      rw [(List.mem_replicate.1 this).2] at hh
      cases hh⟩
set_option maxRecDepth 20000 in
set_option maxHeartbeats 1000000 in
theorem pnew_any (n : Nat) (t : Int) (hn : 1 ≤ n ∧ n ≤ 64) (ht : 1 ≤ t ∧ t ≤ 1099511627776) (w : World) :
    Calls Try.prog 12 #[.int .i64 (n : Int), .int .i64 t] w fun e w' => ∃ p X, e = .returned (.tuple #[.pointer (some ⟨p, 0, none⟩), .int .i64 0]) ∧ PAt w' p X (fun _ => False) (newPl n t) ∧ (∀ b, X b → w.heap.size ≤ b) ∧ Below w.heap.size w w' := by
  have hmk : ∀ W : World, (Instr.makeSlice 95 (.int .i64 (n : Int)) (.int .i64 (n : Int))).run Try.prog W = .ok (.slice (some ⟨W.heap.size, 0, none⟩) n n) (W.alloc (.cells (madeCells #[.bool false, .bool false, .int .i64 0] (n * 3)) 105)) := fun W => by
    obtain ⟨i, hi, hz, hsz, hby⟩ := info_parts (show (Try.prog.info? 105).map (fun i => (i.zero, i.size, i.bytes)) = some (some (.agg #[.bool false, .bool false, .int .i64 0]), 3, 16) by kernel_rfl)
    have h := run_make (P := Try.prog) W 95 105 i _ Try.underlying95 hi hz .i64 .i64 (n : Int) (n : Int) (by omega) (Int.le_refl _) (by rw [hby]; omega) (by omega)
    rw [hsz, Int.toNat_natCast] at h
    simpa [Value.cells] using h
  have hmm := fun W : World => run_makeMap (P := Try.prog) 96 W
  have hn1 : ¬ (n : Int) < 1 := by omega
  have hn2 : ¬ 64 < (n : Int) := by omega
  have ht1 : ¬ t < 1 := by omega
  have ht2 : ¬ 1099511627776 < t := by omega
  have HN := Bx.mk hn
  have HT := Bx.mk ht
  clear hn ht
  go_enter Try.func12, Try.ntmps12
  go_wp2_with fail
  go_ret2
  have s1 : (w.alloc (.cells (madeCells #[.bool false, .bool false, .int .i64 0] (n * 3)) 105)).heap.size = w.heap.size + 1 := World.size_alloc _ _
  have O1 := own_made (W := w) 0 n (Nat.zero_le _) (by have := HN.out; unfold maxLen; omega)
  have B1 := (Below.refl w.heap.size w).alloc (Nat.le_refl _) (.cells (madeCells #[.bool false, .bool false, .int .i64 0] (n * 3)) 105)
  obtain ⟨w1, hw1⟩ : ∃ W, w.alloc (.cells (madeCells #[.bool false, .bool false, .int .i64 0] (n * 3)) 105) = W := ⟨_, rfl⟩
  rw [hw1] at s1 O1 B1 ⊢
  have M2 := MapF.new w1
  have B2 := (Below.refl w1.heap.size w1).alloc (Nat.le_refl _) (.map #[] 0)
  have s2 : (w1.alloc (.map #[] 0)).heap.size = w1.heap.size + 1 := World.size_alloc _ _
  obtain ⟨w2, hw2⟩ : ∃ W, w1.alloc (.map #[] 0) = W := ⟨_, rfl⟩
  rw [hw2] at s2 M2 B2 ⊢
  rw [s1] at M2 s2
  have hp := World.alloc_heap_new w2 (plO (newPl n t) (.slice (some ⟨w.heap.size, 0, none⟩) n n) (w.heap.size + 1))
  have B3 := (Below.refl w2.heap.size w2).alloc (Nat.le_refl _) (plO (newPl n t) (.slice (some ⟨w.heap.size, 0, none⟩) n n) (w.heap.size + 1))
  change (w2.alloc (.cells #[.int .i64 t, .int .i64 0, .slice (some ⟨w.heap.size, 0, none⟩) n n, .map (some (w.heap.size + 1))] 98)).heap[w2.heap.size]? = _ at hp
  change Below _ _ (w2.alloc (.cells #[.int .i64 t, .int .i64 0, .slice (some ⟨w.heap.size, 0, none⟩) n n, .map (some (w.heap.size + 1))] 98)) at B3
  have s3 : (w2.alloc (.cells #[.int .i64 t, .int .i64 0, .slice (some ⟨w.heap.size, 0, none⟩) n n, .map (some (w.heap.size + 1))] 98)).heap.size = w2.heap.size + 1 := World.size_alloc _ _
  obtain ⟨w3, hw3⟩ : ∃ W, w2.alloc (.cells #[.int .i64 t, .int .i64 0, .slice (some ⟨w.heap.size, 0, none⟩) n n, .map (some (w.heap.size + 1))] 98) = W := ⟨_, rfl⟩
  rw [hw3] at s3 hp B3 ⊢
  rw [s2] at hp
  have hl : (newPl n t).ws.length = n := List.length_replicate ..
  refine ⟨w.heap.size + 1 + 1, rfl, fun b => w.heap.size ≤ b ∧ b ≤ w.heap.size + 2, ⟨w.heap.size + 1, .slice (some ⟨w.heap.size, 0, none⟩) n n, fun _ => none, [], fun _ => 0, fun _ => .slice none 0 0, fun _ => .slice none 0 0, fun _ => .slice none 0 0,
    ⟨hp, M2.kept (B3.block _ (by omega)), by rw [hl]; exact own_below (own_below O1 (B2.mono (by omega))) B3, fun _ _ => rfl, (fun _ _ h => by cases h), (fun _ _ h => by cases h), (fun _ _ h => by cases h), (fun _ _ _ _ h => by cases h), (fun _ _ _ _ _ h => by cases h), ⟨by omega, by omega⟩, ⟨by omega, by omega⟩,
      fun b hb => (by have : w.heap.size = b := Option.some.inj hb; exact ⟨by omega, by omega⟩), fun _ _ h => h, fun b hb => (by have h2 : b ≤ w.heap.size + 2 := hb.2; omega), (fun _ h => h.elim), newPl_ok HN.out HT.out⟩⟩, fun b hb => hb.1, bel (bel B1 B2) B3⟩
end Go.Proofs.Ytfdacckkdjpjhaa
