/- The law TextSplices. -/
import Derived.Test.YtcknnlbfbjcjjaaDoorTxtR1
namespace Go.Proofs.YtcknnlbfbjcjjaaDoor
open Go.RowKit

theorem Box3.s0 {w : World} {b : Nat} {c0 c1 c2 : Value} (h : Box3 w b c0 c1 c2) (x : Value) : Box3 (w.setCell ⟨b, 0, none⟩ x) b x c1 c2 := heap_set3 h 0 x
theorem Box3.s1 {w : World} {b : Nat} {c0 c1 c2 : Value} (h : Box3 w b c0 c1 c2) (x : Value) : Box3 (w.setCell ⟨b, 1, none⟩ x) b c0 x c2 := heap_set3 h 1 x

def GenPost (w : World) (v : Value) (en : Ending) (w' : World) : Prop :=
  ∃ a d : Int, en = .returned (.agg #[.int .i64 a, .int .i64 d, v]) ∧ (-9223372036854775808 ≤ a ∧ a ≤ 9223372036854775807) ∧ (-9223372036854775808 ≤ d ∧ d ≤ 9223372036854775807) ∧ Below w.heap.size w w'
set_option maxRecDepth 20000 in
set_option maxHeartbeats 4000000 in
theorem redit_any (u : Value) (t : List Int) (n : Int) (av : Option Addr) (nv cv : Nat) (w : World) (hu : Rv w u t.length (t.map (Value.int .i64))) (ht : t.length ≤ 1000) (hn : -9223372036854775808 ≤ n ∧ n ≤ 9223372036854775807) :
    Calls Tryd.prog 19 #[u, .int .i64 n, .slice av nv cv] w (GenPost w (.slice av nv cv)) := by
  obtain ⟨ao, cap, rfl, hcap, hrd⟩ := hu.opened
  have HN := Lib.hid hn
  clear hn
  go_enter Tryd.func19, Tryd.ntmps19
  go_wp2_with fail
  refine (around_nat n 1048576 (by omega) HN.out.1 HN.out.2 (by omega) _).mono ?_
  rintro e w' ⟨k, hk, _, rfl, rfl⟩
  obtain ⟨a0, ha0, ha1⟩ : ∃ a0 : Nat, (k : Int) % ((t.length : Int) + 1) = (a0 : Int) ∧ a0 ≤ t.length := by
    have h1 := Int.emod_nonneg (k : Int) (show ((t.length : Int) + 1) ≠ 0 by omega)
    have h2 := Int.emod_lt_of_pos (k : Int) (show (0 : Int) < (t.length : Int) + 1 by omega)
    exact ⟨((k : Int) % ((t.length : Int) + 1)).toNat, by omega, by omega⟩
  obtain ⟨d0, hd0, hd1, hd2⟩ : ∃ d0 : Int, ((k : Int) / 64 % ((t.length : Int) - (a0 : Int) + 1)).tmod 5 = d0 ∧ -5 ≤ d0 ∧ d0 ≤ 5 := by
    have h1 := Int.emod_nonneg ((k : Int) / 64) (show ((t.length : Int) - (a0 : Int) + 1) ≠ 0 by omega)
    have h3 := Int.tmod_eq_emod_of_nonneg (b := 5) h1
    have h4 := Int.emod_nonneg ((k : Int) / 64 % ((t.length : Int) - (a0 : Int) + 1)) (show (5 : Int) ≠ 0 by decide)
    have h5 := Int.emod_lt_of_pos ((k : Int) / 64 % ((t.length : Int) - (a0 : Int) + 1)) (show (0 : Int) < 5 by decide)
    exact ⟨_, rfl, by omega, by omega⟩
  go_wp2_with fail
  all_goals
    refine bodyPost_ret (results_edit1 rfl _ rfl ((Box3.new w _ _ _).alloc _)) rfl ?_
    exact ⟨_, _, rfl, by omega, by omega, ((Below.refl _ w).alloc (Nat.le_refl _) _).alloc (by simp) _⟩

/-- A block of edits. -/
def TabE (w : World) (b : Nat) (L : List (Ed × Value)) : Prop := ∀ i (h : i < L.length), w.cell? ⟨b, i * 3, none⟩ = some (.int .i64 L[i].1.a) ∧ w.cell? ⟨b, i * 3 + 1, none⟩ = some (.int .i64 L[i].1.d) ∧ w.cell? ⟨b, i * 3 + 2, none⟩ = some L[i].2 ∧
  Rv w L[i].2 L[i].1.s.length (L[i].1.s.map (.int .i64))
theorem TabE.below {w w' : World} {b : Nat} {L : List (Ed × Value)} (h : TabE w b L) (hb : Below w.heap.size w w') : TabE w' b L := fun i hi => by
  obtain ⟨h0, h1, h2, h3⟩ := h i hi
  have hlt := World.block_lt_of_cell? _ _ h0
  exact ⟨(hb.cell (p := ⟨b, i * 3, none⟩) hlt).trans h0, (hb.cell (p := ⟨b, i * 3 + 1, none⟩) hlt).trans h1, (hb.cell (p := ⟨b, i * 3 + 2, none⟩) hlt).trans h2, h3.below hb⟩
theorem TabE.new3 {w : World} (p q r : Ed × Value) (e : TypeId) (hp : Rv w p.2 p.1.s.length (p.1.s.map (.int .i64))) (hq : Rv w q.2 q.1.s.length (q.1.s.map (.int .i64))) (hr : Rv w r.2 r.1.s.length (r.1.s.map (.int .i64))) :
    TabE (w.alloc (.cells #[.int .i64 p.1.a, .int .i64 p.1.d, p.2, .int .i64 q.1.a, .int .i64 q.1.d, q.2, .int .i64 r.1.a, .int .i64 r.1.d, r.2] e)) w.heap.size [p, q, r] := fun i hi => by
  have hB : Below w.heap.size w (w.alloc (.cells #[.int .i64 p.1.a, .int .i64 p.1.d, p.2, .int .i64 q.1.a, .int .i64 q.1.d, q.2, .int .i64 r.1.a, .int .i64 r.1.d, r.2] e)) := (Below.refl _ w).alloc (Nat.le_refl _) _
  match i, hi with
  | 0, _ => exact ⟨by simp, by simp, by simp, hp.below hB⟩
  | 1, _ => exact ⟨by simp, by simp, by simp, hq.below hB⟩
  | 2, _ => exact ⟨by simp, by simp, by simp, hr.below hB⟩

/-- The undoing edit is possible, and leads back. -/
theorem undo_back (t : List Int) (e : Ed) (h : chkE t.length e = 0) (ht : t.all (symB true) = true) (hn : t.length ≤ 1000) :
    chkE (splR t e).length (undR t e) = 0 ∧ splR (splR t e) (undR t e) = t := by
  obtain ⟨A, D, ha, hd, hAD, hb, hlen⟩ := chkE_ok h
  obtain ⟨a, d, s⟩ := e
  simp only at ha hd hb hlen
  subst ha
  subst hd
  have hu : undR t ⟨(A : Int), (D : Int), s⟩ = ⟨(A : Int), (s.length : Int), (t.drop A).take D⟩ := by unfold undR und; rw [if_pos h]; rfl
  have hs : splR t ⟨(A : Int), (D : Int), s⟩ = t.take A ++ (s ++ t.drop (A + D)) := by
    unfold splR spl
    rw [if_pos h]
    simp only [Int.toNat_natCast]
    rw [show ((A : Int) + (D : Int)).toNat = A + D from by omega]
  have hl : (splR t ⟨(A : Int), (D : Int), s⟩).length + D = t.length + s.length := by
    rw [hs]
    simp only [List.length_append, List.length_take, List.length_drop]
    omega
  have hul : ((t.drop A).take D).length = D := by simp only [List.length_take, List.length_drop]; omega
  have hub : ((t.drop A).take D).any badE = false := by
    refine List.any_eq_false.2 fun x hx => ?_
    have := symB_nat (List.all_eq_true.1 ht x (List.mem_of_mem_drop (List.mem_of_mem_take hx)))
    unfold badE
    simp
    omega
  have hc : chkE (splR t ⟨(A : Int), (D : Int), s⟩).length (undR t ⟨(A : Int), (D : Int), s⟩) = 0 := by
    rw [hu]
    unfold chkE
    simp only
    rw [if_neg (by omega), hub, if_neg (by decide), if_neg (by omega)]
  refine ⟨hc, ?_⟩
  have e1 : splR (splR t ⟨(A : Int), (D : Int), s⟩) (undR t ⟨(A : Int), (D : Int), s⟩) = spl (splR t ⟨(A : Int), (D : Int), s⟩) (undR t ⟨(A : Int), (D : Int), s⟩) := by
    unfold splR at hc ⊢
    rw [if_pos hc]
  rw [e1, hu, hs]
  unfold spl
  simp only [Int.toNat_natCast]
  rw [show ((A : Int) + (s.length : Int)).toNat = A + s.length from by omega]
  have hA : (t.take A).length = A := by rw [List.length_take]; omega
  rw [List.take_append_of_le_length (by omega), List.take_of_length_le (by omega), ← List.append_assoc (t.take A) s, List.drop_left' (by rw [List.length_append, hA]), ← List.drop_drop, List.take_append_drop, List.take_append_drop]
end Go.Proofs.YtcknnlbfbjcjjaaDoor
