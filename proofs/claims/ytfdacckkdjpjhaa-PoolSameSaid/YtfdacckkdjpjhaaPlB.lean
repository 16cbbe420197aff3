/- Package pool: no, wrong, running, holds. -/
import Derived.Test.YtfdacckkdjpjhaaPlA
import Derived.BigQuiet
import Derived.Deep.CutRange
import Derived.StillTailTactics
import Derived.Deep.QuietTactic
import Derived.Deep.RegionHeld3
namespace Go.Proofs.Ytfdacckkdjpjhaa
open Go.RowKit

def Pl.no (D : Pl) (x : Int) : Bool := decide (x < 0 ∨ (D.ws.length : Int) ≤ x)
def Pl.wrong (D : Pl) (x t : Int) : Int := if D.no x = true ∨ t < 0 ∨ 1099511627776 < t then 1 else if t < D.tick then 16 else 0
def Pl.run (D : Pl) (e : En) (t : Int) : Bool := !e.done && !e.lost && (match e.tries.getLast? with | none => false | some x => decide (t < x.2 + D.timeout))
section
variable {p mb : Nat} {wv : Value} {F : Int → Option Value} {ks : List Int} {B : Int → Nat} {TV BV AV : Int → Value} {X R : Nat → Prop} {D : Pl}
set_option maxRecDepth 10000 in
theorem no_any (x : Int) (w : World) (h : PX w p mb wv F ks B TV BV AV X R D) :
    Calls Try.prog 70 #[.pointer (some ⟨p, 0, none⟩), .int .i64 x] w fun e w' => e = .returned (.bool (D.no x)) ∧ w' = w := by
  have c2 := h.c2
  have hl := h.ok.wsl
  obtain ⟨a, c, rfl⟩ := own_isSlice h.row
  unfold Pl.no
  obtain ⟨n, hn⟩ : ∃ n, D.ws.length = n := ⟨_, rfl⟩
  rw [hn] at c2 hl ⊢
  clear hn
  go_enter Try.func70, Try.ntmps70
  by_cases h1 : x < 0
  · rw [decide_eq_true (.inl h1)]
    go_wp2
    go_ret
    exact ⟨rfl, rfl⟩
  · by_cases h2 : (n : Int) ≤ x
    · rw [decide_eq_true (.inr h2)]
      go_wp2
      go_ret
      exact ⟨rfl, rfl⟩
    · rw [decide_eq_false (fun h => h.elim h1 h2)]
      go_wp2
      go_ret
      exact ⟨rfl, rfl⟩
set_option maxRecDepth 10000 in
theorem wrong_any (x t : Int) (w : World) (h : PX w p mb wv F ks B TV BV AV X R D) :
    Calls Try.prog 50 #[.pointer (some ⟨p, 0, none⟩), .int .i64 x, .int .i64 t] w fun e w' => e = .returned (.int .i64 (D.wrong x t)) ∧ w' = w := by
  have c1 := h.c1
  have hno := no_any x w h
  unfold Pl.wrong
  obtain ⟨b, hb⟩ : ∃ b, D.no x = b := ⟨_, rfl⟩
  rw [hb] at hno ⊢
  obtain ⟨k, hk⟩ : ∃ k, D.tick = k := ⟨_, rfl⟩
  rw [hk] at c1 ⊢
  have HN := Bx.mk hno
  obtain ⟨r, hr⟩ : ∃ r : Int, (if b = true ∨ t < 0 ∨ 1099511627776 < t then 1 else if t < k then 16 else 0) = r := ⟨_, rfl⟩
  rw [hr]
  have HR := Bx.mk hr
  clear hb hk hno hr
  go_enter Try.func50, Try.ntmps50
  go_wp2_with fail
  refine HN.out.mono ?_
  rintro e w1 ⟨rfl, rfl⟩
  have hr := HR.out
  clear HR HN
  cases b
  · by_cases h1 : t < 0
    · rw [if_pos (.inr (.inl h1))] at hr
      subst hr
      go_wp2
      go_ret
      exact ⟨rfl, rfl⟩
    · by_cases h2 : 1099511627776 < t
      · rw [if_pos (.inr (.inr h2))] at hr
        subst hr
        go_wp2
        go_ret
        exact ⟨rfl, rfl⟩
      · rw [if_neg (by simp; omega)] at hr
        by_cases h3 : t < k
        · rw [if_pos h3] at hr
          subst hr
          go_wp2
          go_ret
          exact ⟨rfl, rfl⟩
        · rw [if_neg h3] at hr
          subst hr
          go_wp2
          go_ret
          exact ⟨rfl, rfl⟩
  · rw [if_pos (.inl rfl)] at hr
    subst hr
    go_wp2
    go_ret
    exact ⟨rfl, rfl⟩
theorem last_of {l : List (Int × Int)} {n : Nat} (h : l.length = n + 1) : ∃ t, l[n]? = some t ∧ l.getLast? = some t := by
  have e : l[n]? = some l[n] := List.getElem?_eq_getElem (by omega)
  refine ⟨_, e, ?_⟩
  rw [List.getLast?_eq_getElem?, show l.length - 1 = n by omega]
  exact e
set_option maxRecDepth 10000 in
set_option maxHeartbeats 1000000 in
theorem running_any (k : Int) (e : En) (t : Int) (w : World) (h : PX w p mb wv F ks B TV BV AV X R D) (hk : D.ts k = some e) :
    Calls Try.prog 52 #[.pointer (some ⟨p, 0, none⟩), .pointer (some ⟨B k, 0, none⟩), .int .i64 t] w fun en w' => en = .returned (.bool (D.run e t)) ∧ ∃ n, w' = w.drewN n := by
  have c0 := h.c0
  have e1 := h.e hk 1 _ rfl
  have e2 := h.e hk 2 _ rfl
  have e3 := h.e hk 3 _ rfl
  have hto := h.ok.tmo
  have htr := h.ok.tri k e hk
  have htk := h.ok.tck
  obtain ⟨a, c, hT⟩ := own_isSlice (h.tr k e hk).1
  rw [hT] at e1
  obtain ⟨r, hr⟩ : ∃ r, D.run e t = r := ⟨_, rfl⟩
  rw [hr]
  unfold Pl.run at hr
  have HR := Bx.mk hr
  clear hr
  go_enter Try.func52, Try.ntmps52
  cases hd : e.done
  · cases hl : e.lost
    · rw [hd] at e3
      rw [hl] at e2
      have hr := HR.out
      rw [hd, hl] at hr
      cases hn : e.tries.length with
      | zero =>
        have h0 : e.tries = [] := List.eq_nil_of_length_eq_zero hn
        rw [h0] at hr
        change false = r at hr
        subst hr
        rw [hn] at e1
        clear htr h hk hT HR
        go_wp2
        go_ret
        exact ⟨rfl, 0, rfl⟩
      | succ n =>
        obtain ⟨x, hx, hlast⟩ := last_of hn
        rw [hlast] at hr
        change decide (t < x.2 + D.timeout) = r at hr
        obtain ⟨g, c', hT', hlc, hcm, hc1, hc2⟩ := h.try hk hx
        rw [hT] at hT'
        injection hT' with q1 q2 q3
        subst q1 q3
        have hxt := htr x (List.mem_of_getElem? hx)
        rw [hn] at e1 hlc
        obtain ⟨bk, hbk⟩ : ∃ b, B k = b := ⟨_, rfl⟩
        rw [hbk] at e1 e2 e3 ⊢
        obtain ⟨tmo, hto'⟩ : ∃ b, D.timeout = b := ⟨_, rfl⟩
        rw [hto'] at c0 hto hr
        obtain ⟨x1, x2⟩ := x
        simp only at hc1 hc2 hxt hr
        have hx2 : x2 ≤ 1099511627776 := by omega
        have hx0 : 0 ≤ x2 := hxt.2.1
        have hw : IntKind.i64.wrap (x2 + tmo) = x2 + tmo := by rw [IntKind.wrap_i64]; omega
        have hwn : IntKind.i64.wrap (n : Int) = (n : Int) := by rw [IntKind.wrap_i64]; unfold maxLen at hcm; omega
        have HR := Bx.mk hr
        clear htr h hk hT hx hlast hn hbk hto' q2 hxt hr hc1 hcm
        go_wp2_with fail
        go_quiet (fail)
        go_wp2_with fail
        go_ret
        rw [← HR.out]
        exact ⟨rfl, nq, rfl⟩
    · rw [hd] at e3
      rw [hl] at e2
      have hr := HR.out
      rw [hd, hl] at hr
      change false = r at hr
      subst hr
      clear htr h hk HR
      go_wp2
      go_ret
      exact ⟨rfl, 0, rfl⟩
  · rw [hd] at e3
    have hr := HR.out
    rw [hd] at hr
    change false = r at hr
    subst hr
    clear htr h hk HR
    go_wp2
    go_ret
    exact ⟨rfl, 0, rfl⟩
/-- What holds returns. -/
def HoldsPost (w : World) (D : Pl) (B : Int → Nat) (i : Nat) (v : Wk) (en : Ending) (w' : World) : Prop :=
  Below w.heap.size w w' ∧ ((v.has = false ∧ en = .returned (.tuple #[.pointer none, .bool false])) ∨
    (v.has = true ∧ ∃ e t, D.ts v.task = some e ∧ e.tries.getLast? = some t ∧ en = .returned (.tuple #[.pointer (some ⟨B v.task, 0, none⟩), .bool (t.1 == (i : Int))])))
theorem zero_ent (W : World) : (zeroValue 99).run Try.prog W = .ok (.pointer none) W := by kernel_rfl
theorem Try.underlyingPM : Try.prog.underlying 96 = some (.map 3 99) := Try.underlying96
theorem PX.look {w : World} (h : PX w p mb wv F ks B TV BV AV X R D) (k : Int) (ok : Bool) (W : World) (hW : W.heap = w.heap) : (Instr.lookup 96 (.map (some mb)) (.int .i64 k) ok).run Try.prog W = .ok (if ok then .tuple #[(F k).getD (.pointer none), .bool (F k).isSome] else (F k).getD (.pointer none)) W :=
  (h.map.kept (by rw [hW])).lookup (P := Try.prog) (K := 3) (e := 99) Try.underlyingPM (by kernel_rfl) (zero_ent W) k ok
set_option maxRecDepth 10000 in
set_option maxHeartbeats 1000000 in
theorem holds_any (i : Nat) (v : Wk) (hv : D.ws[i]? = some v) (w : World) (h : PX w p mb wv F ks B TV BV AV X R D) :
    Calls Try.prog 51 #[.pointer (some ⟨p, 0, none⟩), .int .i64 (i : Int)] w (HoldsPost w D B i v) := by
  have c2 := h.c2
  have c3 := h.c3
  obtain ⟨g, c, hw, hc, k0, k1, k2⟩ := h.wk hv
  have hi := (List.getElem?_eq_some_iff.1 hv).1
  have hl := h.ok.wsl
  have hh := h.ok.has i v hv
  rw [hw] at c2
  obtain ⟨n, hn⟩ : ∃ n, D.ws.length = n := ⟨_, rfl⟩
  rw [hn] at hi hl hc c2
  obtain ⟨d, b, k⟩ := v
  simp only at k0 k1 k2 hh
  have hi2 : (i : Int) < (n : Int) := by omega
  have HV := Bx.mk hv
  clear hv hn hw
  go_enter Try.func51, Try.ntmps51
  cases b
  · go_wp2_with fail
    go_ret2
    exact ⟨(Below.refl _ w).alloc (Nat.le_refl _) _, .inl ⟨rfl, rfl⟩⟩
  · obtain ⟨e, he, hne⟩ := hh rfl
    obtain ⟨m, hm⟩ : ∃ m, e.tries.length = m + 1 := ⟨e.tries.length - 1, by have := List.length_pos_iff.2 hne; omega⟩
    obtain ⟨t, ht, hlast⟩ := last_of hm
    have hF := (h.en k e he).1
    have hlk := h.look k false
    rw [hF] at hlk
    obtain ⟨gt, ct, hT, hlc, hcm, t1, _⟩ := h.try he ht
    have e1 := h.e he 1 _ rfl
    rw [hT, hm] at e1
    rw [hm] at hlc
    obtain ⟨bk, hbk⟩ : ∃ b, B k = b := ⟨_, rfl⟩
    rw [hbk] at e1 hlk
    have hwn : IntKind.i64.wrap (m : Int) = (m : Int) := by rw [IntKind.wrap_i64]; unfold maxLen at hcm; omega
    have hp : p < w.heap.size := h.lt
    have A := (Below.refl w.heap.size w).alloc (Nat.le_refl _) (.cells #[.bool d, .bool true, .int .i64 k] 105)
    have c3a := (A.cell (p := ⟨p, 3, none⟩) (World.block_lt_of_cell? _ _ c3)).trans c3
    have e1a := (A.cell (p := ⟨bk, 1, none⟩) (World.block_lt_of_cell? _ _ e1)).trans e1
    have t1a := (A.cell (p := ⟨gt, m * 2, none⟩) (World.block_lt_of_cell? _ _ t1)).trans t1
    have hlk2 : ∀ W, W.heap[mb]? = w.heap[mb]? → (Instr.lookup 96 (.map (some mb)) (.int .i64 k) false).run Try.prog W = .ok (.pointer (some ⟨bk, 0, none⟩)) W := fun W hW => by
      have := (h.map.kept (w' := W) hW).lookup (P := Try.prog) (K := 3) (e := 99) Try.underlyingPM (by kernel_rfl) (zero_ent W) k false
      rw [hF, hbk] at this
      exact this
    have hmb := h.xl mb h.xm
    have HLK := Bx.mk hlk2
    have HHE := Bx.mk he
    have HBK := Bx.mk hbk
    have HLA := Bx.mk hlast
    clear hlk hlk2 hF h he ht hlast hT hne hm hbk hh c3 e1 t1 hcm
    go_upto_region 4 with fail
    have hs : (w.alloc (.cells #[.bool d, .bool true, .int .i64 k] 105)).heap.size = w.heap.size + 1 := World.size_alloc _ _
    have k2a : (w.alloc (.cells #[.bool d, .bool true, .int .i64 k] 105)).cell? ⟨w.heap.size, 2, none⟩ = some (.int .i64 k) := by simp [go_sem]
    obtain ⟨W1, hW1⟩ : ∃ W, w.alloc (.cells #[.bool d, .bool true, .int .i64 k] 105) = W := ⟨_, rfl⟩
    rw [hW1] at A c3a e1a t1a k2a ⊢
    have lk4 := HLK.out W1 (A.block mb hmb)
    have lk4d := HLK.out W1.drew (A.block mb hmb)
    have A := A.drew
    clear hW1 hs k0 k1 k2 c2
    go_still_tail 6, (by kernel_rfl)
    change wpList _ _ _ _ _ W1.drew
    have e1a : W1.drew.cell? ⟨bk, 1, none⟩ = _ := e1a
    have t1a : W1.drew.cell? ⟨gt, m * 2, none⟩ = _ := t1a
    generalize W1.drew = W2 at A e1a t1a lk4d ⊢
    clear c3a k2a lk4
    go_upto_region 5 with fail
    go_quiet (fail)
    go_wp2_with fail
    go_ret2
    exact ⟨belD A nq, .inr ⟨rfl, e, t, HHE.out, HLA.out, by rw [← HBK.out]; rfl⟩⟩
end
end Go.Proofs.Ytfdacckkdjpjhaa
