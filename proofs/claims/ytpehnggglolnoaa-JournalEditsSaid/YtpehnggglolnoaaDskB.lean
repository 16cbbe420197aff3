/- Several texts in one: DskA DskB. -/
import Derived.Test.YtpehnggglolnoaaStp
import Derived.Test.YtpehnggglolnoaaMapF
import Derived.Test.YtpehnggglolnoaaRefA
import Derived.Test.YtpehnggglolnoaaLibIn
import Derived.Test.YtpehnggglolnoaaSame
import Derived.BigQuiet
import Derived.Deep.QuietTactic
/- Package disk: what a disk is, and how it lies in memory. -/
namespace Go.Proofs.Ytpehnggglolnoaa
open Go.RowKit

/-- A disk: the bytes of each file and how many of them are durable (none of an empty one). -/
structure Dk where
  room : Int
  fs : Int → List UInt8 × Nat
  off : Bool
  armed : Bool
  left : Nat
def sumL (f : Nat → Nat) (n : Nat) : Nat := ((List.range n).map f).sum
theorem sumL_succ (f : Nat → Nat) (n : Nat) : sumL f (n + 1) = sumL f n + f n := by
  unfold sumL
  rw [List.range_succ, List.map_append, List.sum_append]
  simp
theorem sumL_congr {f g : Nat → Nat} {n : Nat} (h : ∀ i, i < n → g i = f i) : sumL g n = sumL f n := by
  induction n with
  | zero => rfl
  | succ n ih => rw [sumL_succ, sumL_succ, ih (fun i hi => h i (by omega)), h n (by omega)]
theorem sumL_upd {f g : Nat → Nat} {k n : Nat} (hk : k < n) (h : ∀ i, i ≠ k → g i = f i) : sumL g n + f k = sumL f n + g k := by
  induction n with
  | zero => omega
  | succ n ih =>
    rw [sumL_succ, sumL_succ]
    by_cases e : k = n
    · subst e
      rw [sumL_congr (f := f) (fun i hi => h i (by omega))]
      omega
    · have := ih (by omega)
      have := h n (fun e2 => e e2.symm)
      omega
theorem sumL_le (f : Nat → Nat) {k n : Nat} (hk : k < n) : f k ≤ sumL f n := by
  induction n with
  | zero => omega
  | succ n ih =>
    rw [sumL_succ]
    by_cases e : k = n
    · subst e; omega
    · have := ih (by omega); omega
def Dk.used (D : Dk) : Nat := sumL (fun i => (D.fs (i : Int)).1.length) 64
def Dk.put (D : Dk) (k : Int) (b : List UInt8) (d : Nat) : Dk := { D with fs := fun j => if j = k then (b, if b = [] then 0 else d) else D.fs j }
theorem Dk.le_used (D : Dk) (k : Int) (h0 : 0 ≤ k) (h1 : k < 64) : (D.fs k).1.length ≤ D.used := by
  have e : ((k.toNat : Nat) : Int) = k := by omega
  have := sumL_le (fun i => (D.fs (i : Int)).1.length) (k := k.toNat) (n := 64) (by omega)
  simp only [e] at this
  exact this
theorem Dk.used_put (D : Dk) (k : Int) (b : List UInt8) (d : Nat) (h0 : 0 ≤ k) (h1 : k < 64) : (D.put k b d).used + (D.fs k).1.length = D.used + b.length := by
  have e : ((k.toNat : Nat) : Int) = k := by omega
  have := sumL_upd (f := fun i => (D.fs (i : Int)).1.length) (g := fun i => ((D.put k b d).fs (i : Int)).1.length) (k := k.toNat) (n := 64) (by omega) (fun i hi => by
    have hne : ¬ (i : Int) = k := by omega
    simp only [Dk.put, if_neg hne])
  simp only [e] at this
  have e2 : ((D.put k b d).fs k).1 = b := by simp [Dk.put]
  rw [e2] at this
  exact this
def newD (room : Int) : Dk := ⟨room, fun _ => ([], 0), false, false, 0⟩

/-- Its six cells. -/
def dkO (D : Dk) (mb : Nat) : Obj := .cells #[.int .i64 D.room, .int .i64 (D.used : Int), .map (some mb), .bool D.off, .bool D.armed, .int .i64 (D.left : Int)] 96 (0, 0)
/-- The disk in block p, its map in block mb, its blocks X; of the files ex the rows are not told. -/
structure DiskX (ex : Int → Prop) (w : World) (p mb : Nat) (F : Int → Option Value) (ks : List Int) (X : Nat → Prop) (D : Dk) : Prop where
  blk : w.heap[p]? = some (dkO D mb)
  map : MapF w mb F ks
  pm : p ≠ mb
  xp : X p
  xm : X mb
  emp : ∀ k, (D.fs k).1 = [] → F k = none ∧ (D.fs k).2 = 0
  ful : ∀ k, (D.fs k).1 ≠ [] → 0 ≤ k ∧ k < 64 ∧ ∃ a c, F k = some (.agg #[.slice a (D.fs k).1.length c, .int .i64 ((D.fs k).2 : Int)])
  row : ∀ k v d, ¬ ex k → F k = some (.agg #[v, d]) → w.ownsRow 0 5 1 v (D.fs k).1.length ((D.fs k).1.map vB) ∧ ∀ b, v.ownBlock = some b → X b ∧ b ≠ p ∧ b ≠ mb
  sep : ∀ j k u v d e b, ¬ ex j → ¬ ex k → j ≠ k → F j = some (.agg #[u, d]) → F k = some (.agg #[v, e]) → u.ownBlock = some b → v.ownBlock ≠ some b
  dur : ∀ k, (D.fs k).2 ≤ (D.fs k).1.length
  room : 0 ≤ D.room ∧ D.room ≤ 16777216
  used : (D.used : Int) ≤ D.room
  left : D.left ≤ 9223372036854775807
  xl : ∀ b, X b → b < w.heap.size
abbrev DiskAt := DiskX (fun _ => False)
section
variable {ex : Int → Prop} {w w' : World} {p mb : Nat} {F : Int → Option Value} {ks : List Int} {X : Nat → Prop} {D : Dk}
theorem DiskX.lt (h : DiskX ex w p mb F ks X D) : p < w.heap.size := (Array.getElem?_eq_some_iff.1 h.blk).1
theorem DiskX.c0 (h : DiskX ex w p mb F ks X D) : w.cell? ⟨p, 0, none⟩ = some (.int .i64 D.room) := by have := h.blk; unfold dkO at this; simp [World.cell?, this]
theorem DiskX.c1 (h : DiskX ex w p mb F ks X D) : w.cell? ⟨p, 1, none⟩ = some (.int .i64 (D.used : Int)) := by have := h.blk; unfold dkO at this; simp [World.cell?, this]
theorem DiskX.c2 (h : DiskX ex w p mb F ks X D) : w.cell? ⟨p, 2, none⟩ = some (.map (some mb)) := by have := h.blk; unfold dkO at this; simp [World.cell?, this]
theorem DiskX.c3 (h : DiskX ex w p mb F ks X D) : w.cell? ⟨p, 3, none⟩ = some (.bool D.off) := by have := h.blk; unfold dkO at this; simp [World.cell?, this]
theorem DiskX.c4 (h : DiskX ex w p mb F ks X D) : w.cell? ⟨p, 4, none⟩ = some (.bool D.armed) := by have := h.blk; unfold dkO at this; simp [World.cell?, this]
theorem DiskX.c5 (h : DiskX ex w p mb F ks X D) : w.cell? ⟨p, 5, none⟩ = some (.int .i64 (D.left : Int)) := by have := h.blk; unfold dkO at this; simp [World.cell?, this]
theorem DiskX.fz (h : DiskX ex w p mb F ks X D) (j : Nat) : w.frozen? ⟨p, j, none⟩ = false := by have := h.blk; unfold dkO at this; simp [World.frozen?, this]
/-- Where none of its blocks has changed. -/
theorem DiskX.kept (h : DiskX ex w p mb F ks X D) (hs : w.heap.size ≤ w'.heap.size) (hb : ∀ b, X b → w'.heap[b]? = w.heap[b]?) : DiskX ex w' p mb F ks X D :=
  ⟨(hb p h.xp).trans h.blk, h.map.kept (hb mb h.xm), h.pm, h.xp, h.xm, h.emp, h.ful, fun k v d hk hF => ⟨own_same (h.row k v d hk hF).1 (fun b hv => hb b ((h.row k v d hk hF).2 b hv).1), (h.row k v d hk hF).2⟩, h.sep, h.dur, h.room, h.used, h.left, fun b hX => Nat.lt_of_lt_of_le (h.xl b hX) hs⟩
theorem DiskX.later (h : DiskX ex w p mb F ks X D) (B : Below w.heap.size w w') : DiskX ex w' p mb F ks X D := h.kept B.size (fun b hX => B.block b (h.xl b hX))
theorem DiskX.weak (h : DiskAt w p mb F ks X D) (ex : Int → Prop) : DiskX ex w p mb F ks X D := ⟨h.blk, h.map, h.pm, h.xp, h.xm, h.emp, h.ful, fun k v d _ hF => h.row k v d id hF, fun j k u v d e b _ _ => h.sep j k u v d e b id id, h.dur, h.room, h.used, h.left, h.xl⟩
/-- The disk's own cells turned. -/
theorem DiskX.turn (h : DiskX ex w p mb F ks X D) {D' : Dk} (hb : w'.heap[p]? = some (dkO D' mb)) (hs : w.heap.size ≤ w'.heap.size) (hk : ∀ k, k < w.heap.size → k ≠ p → w'.heap[k]? = w.heap[k]?) (hf : D'.fs = D.fs) (hr : D'.room = D.room) (hl : D'.left ≤ 9223372036854775807) : DiskX ex w' p mb F ks X D' := by
  have hu : D'.used = D.used := by unfold Dk.used; rw [hf]
  have hx := fun b (hb : X b) (hp : b ≠ p) => hk b (h.xl b hb) hp
  refine ⟨hb, h.map.kept (hx mb h.xm (fun e => h.pm e.symm)), h.pm, h.xp, h.xm, by rw [hf]; exact h.emp, by rw [hf]; exact h.ful, fun k v d hke hF => ?_, h.sep, by rw [hf]; exact h.dur, by rw [hr]; exact h.room, by rw [hr, hu]; exact h.used, hl, fun b hX => Nat.lt_of_lt_of_le (h.xl b hX) hs⟩
  obtain ⟨h1, h2⟩ := h.row k v d hke hF
  rw [hf]
  exact ⟨own_same h1 (fun b hv => hx b (h2 b hv).1 (h2 b hv).2.1), h2⟩
/-- What 'd.files[k]' is: its slice. -/
theorem DiskX.look (h : DiskX ex w p mb F ks X D) (k : Int) : ∃ a c, (F k).getD (.agg #[.slice none 0 0, .int .i64 0]) = .agg #[.slice a (D.fs k).1.length c, .int .i64 ((D.fs k).2 : Int)] := by
  by_cases he : (D.fs k).1 = []
  · obtain ⟨h1, h2⟩ := h.emp k he
    rw [h1, he, h2]
    exact ⟨none, 0, rfl⟩
  · obtain ⟨_, _, a, c, hF⟩ := h.ful k he
    rw [hF]
    exact ⟨a, c, rfl⟩
end
end Go.Proofs.Ytpehnggglolnoaa

/- Package disk: New, exists, fails, Used, On, Arm. -/
namespace Go.Proofs.Ytpehnggglolnoaa
open Go.RowKit

theorem exists_any (n : Int) (w : World) : Calls Try.prog 75 #[.int .i64 n] w fun e w' => e = .returned (.bool (decide (0 ≤ n ∧ n < 64))) ∧ w = w' := by
  go_enter Try.func75, Try.ntmps75
  by_cases h0 : 0 ≤ n
  · by_cases h1 : n < 64
    · have hd : decide (0 ≤ n ∧ n < 64) = true := decide_eq_true ⟨h0, h1⟩
      rw [hd]
      go_wp2_with fail
      go_ret
      exact ⟨rfl, rfl⟩
    · have hd : decide (0 ≤ n ∧ n < 64) = false := decide_eq_false (fun h => h1 h.2)
      rw [hd]
      go_wp2_with fail
      go_ret
      exact ⟨rfl, rfl⟩
  · have hd : decide (0 ≤ n ∧ n < 64) = false := decide_eq_false (fun h => h0 h.1)
    rw [hd]
    go_wp2_with fail
    go_ret
    exact ⟨rfl, rfl⟩
def Dk.failsB (D : Dk) : Bool := D.armed && decide (D.left = 0)
def Dk.fails (D : Dk) : Dk := if D.armed then (if 0 < D.left then { D with left := D.left - 1 } else { D with armed := false, off := true }) else D
/-- A change of the disk's own block. -/
def PStep (p : Nat) (w w' : World) : Prop := w'.os = w.os ∧ w'.tape = w.tape ∧ w'.output = w.output ∧ w.heap.size ≤ w'.heap.size ∧ ∀ k, k < w.heap.size → k ≠ p → w'.heap[k]? = w.heap[k]?
theorem PStep.refl (p : Nat) (w : World) : PStep p w w := ⟨rfl, rfl, rfl, Nat.le_refl _, fun _ _ _ => rfl⟩
theorem PStep.set {p : Nat} {w w' : World} (h : PStep p w w') (j : Nat) (x : Value) : PStep p w (w'.setCell ⟨p, j, none⟩ x) :=
  ⟨h.1, h.2.1, h.2.2.1, by rw [World.size_setCell]; exact h.2.2.2.1, fun k hk hp => (Below.heap_setCell _ _ _ _ hp).trans (h.2.2.2.2 k hk hp)⟩
theorem PStep.drew {p : Nat} {w w' : World} (h : PStep p w w') : PStep p w w'.drew := h
theorem PStep.drewN {p : Nat} {w w' : World} (h : PStep p w w') (n : Nat) : PStep p w (w'.drewN n) := h
theorem PStep.toD {p : Nat} {w w' : World} (h : PStep p w w') {X : Nat → Prop} (hX : X p) : DStep X X w w' := ⟨h.1, h.2.1, h.2.2.1, h.2.2.2.1, fun k hk hk2 => h.2.2.2.2 k hk (fun e => hk2 (by rw [e]; exact hX)), fun _ h => .inl h⟩
theorem setBlk {w : World} {p : Nat} {cs : Array Value} {T : TypeId} (h : w.heap[p]? = some (.cells cs T (0, 0))) (j : Nat) (x : Value) : (w.setCell ⟨p, j, none⟩ x).heap[p]? = some (.cells (cs.setIfInBounds j x) T (0, 0)) := by
  simp [World.setCell, Array.getElem?_modify, h]
section
variable {ex : Int → Prop} {p mb : Nat} {F : Int → Option Value} {ks : List Int} {X : Nat → Prop} {D : Dk}
set_option maxRecDepth 10000 in
theorem fails_any (w : World) (h : DiskX ex w p mb F ks X D) : Calls Try.prog 76 #[.pointer (some ⟨p, 0, none⟩)] w fun e w' => e = .returned (.bool D.failsB) ∧ DiskX ex w' p mb F ks X D.fails ∧ PStep p w w' := by
  have c4 := h.c4
  have c5 := h.c5
  have c3 := h.c3
  have fz := fun j => h.fz j
  have HH := Lib.hid h
  have hl := h.left
  clear h
  unfold Dk.failsB Dk.fails
  go_enter Try.func76, Try.ntmps76
  cases ha : D.armed
  · rw [ha] at c4
    go_wp2_with fail
    go_ret
    exact ⟨rfl, HH.out, PStep.refl _ _⟩
  · rw [ha] at c4
    by_cases hL : 0 < D.left
    · have hLi : (0 : Int) < (D.left : Int) := by omega
      have hw : wrap64 ((D.left : Int) - 1) = (D.left : Int) - 1 := by unfold wrap64; omega
      go_wp2_with fail
      go_ret
      have hne : ¬ D.left = 0 := by omega
      refine ⟨by simp [hne], ?_, (PStep.refl p w).set 5 _⟩
      refine HH.out.turn ?_ (by simp) (fun k _ hp => Below.heap_setCell _ _ _ _ hp) rfl rfl (by show D.left - 1 ≤ _; omega)
      have hb := HH.out.blk
      unfold dkO at hb
      have := setBlk hb 5 (.int .i64 ((D.left : Int) - 1))
      rw [ha] at this
      simp only [List.setIfInBounds_toArray, List.set_cons_succ, List.set_cons_zero] at this
      unfold dkO
      rw [show (((D.left - 1 : Nat) : Int)) = (D.left : Int) - 1 by omega]
      exact this
    · have hL0 : D.left = 0 := by omega
      have hLi : ¬ (0 : Int) < (D.left : Int) := by omega
      go_wp2_with fail
      go_ret
      refine ⟨by simp, ?_, ((PStep.refl p w).set 4 _).set 3 _⟩
      refine HH.out.turn ?_ (by simp) (fun k _ hp => (Below.heap_setCell _ _ _ _ hp).trans (Below.heap_setCell _ _ _ _ hp)) rfl rfl (by show (0 : Nat) ≤ _; omega)
      have hb := HH.out.blk
      unfold dkO at hb
      have := setBlk (setBlk hb 4 (.bool false)) 3 (.bool true)
      rw [hL0] at this
      simp only [List.setIfInBounds_toArray, List.set_cons_succ, List.set_cons_zero] at this
      unfold dkO
      exact this
theorem used_any (w : World) (h : DiskX ex w p mb F ks X D) : Calls Try.prog 41 #[.pointer (some ⟨p, 0, none⟩)] w fun e w' => e = .returned (.int .i64 (D.used : Int)) ∧ ∃ n, w' = w.drewN n := by
  have c1 := h.c1
  go_enter Try.func41, Try.ntmps41
  go_wp2_with fail
  go_ret
  exact ⟨rfl, 0, rfl⟩
def Dk.arm (D : Dk) (n : Int) : Dk := if D.off then D else { D with armed := decide (0 ≤ n), left := n.toNat }
set_option maxRecDepth 10000 in
theorem arm_any (n : Int) (hn : n ≤ 9223372036854775807) (w : World) (h : DiskX ex w p mb F ks X D) : Calls Try.prog 12 #[.pointer (some ⟨p, 0, none⟩), .int .i64 n] w fun e w' => e = .returned (.tuple #[]) ∧ DiskX ex w' p mb F ks X (D.arm n) ∧ PStep p w w' := by
  have c3 := h.c3
  have c4 := h.c4
  have c5 := h.c5
  have fz := fun j => h.fz j
  have HH := Lib.hid h
  clear h
  unfold Dk.arm
  go_enter Try.func12, Try.ntmps12
  cases ho : D.off
  · rw [ho] at c3
    have hb := HH.out.blk
    unfold dkO at hb
    rw [ho] at hb
    have HB := Lib.hid hb
    clear hb
    by_cases h0 : 0 ≤ n
    · have hm : ((n.toNat : Nat) : Int) = n := by omega
      go_wp2_with fail
      go_end0
      refine ⟨rfl, ?_, ((PStep.refl p w).set 4 _).set 5 _⟩
      refine HH.out.turn ?_ (by simp) (fun k _ hp => (Below.heap_setCell _ _ _ _ hp).trans (Below.heap_setCell _ _ _ _ hp)) rfl rfl (by show n.toNat ≤ _; omega)
      have := setBlk (setBlk HB.out 4 (.bool true)) 5 (.int .i64 n)
      simp only [List.setIfInBounds_toArray, List.set_cons_succ, List.set_cons_zero] at this
      unfold dkO
      rw [hm]
      exact this
    · have hm : ((n.toNat : Nat) : Int) = 0 := by omega
      go_wp2_with fail
      go_end0
      refine ⟨rfl, ?_, ((PStep.refl p w).set 4 _).set 5 _⟩
      refine HH.out.turn ?_ (by simp) (fun k _ hp => (Below.heap_setCell _ _ _ _ hp).trans (Below.heap_setCell _ _ _ _ hp)) rfl rfl (by show n.toNat ≤ _; omega)
      have := setBlk (setBlk HB.out 4 (.bool false)) 5 (.int .i64 0)
      simp only [List.setIfInBounds_toArray, List.set_cons_succ, List.set_cons_zero] at this
      unfold dkO
      rw [hm]
      rw [show decide (0 ≤ n) = false from decide_eq_false (by omega)]
      exact this
  · rw [ho] at c3
    go_wp2_with fail
    go_end0
    exact ⟨rfl, HH.out, PStep.refl _ _⟩
end
theorem new_bad (room : Int) (hr : room < 0 ∨ 16777216 < room) (w : World) : Calls Try.prog 45 #[.int .i64 room] w fun e w' => e = .returned (.tuple #[.pointer none, .int .i64 1]) ∧ w' = w := by
  go_enter Try.func45, Try.ntmps45
  by_cases h0 : room < 0
  · go_wp2_with fail
    go_ret2
    exact ⟨rfl, rfl⟩
  · have h1 : 16777216 < room := by omega
    go_wp2_with fail
    go_ret2
    exact ⟨rfl, rfl⟩
theorem new_any (room : Int) (h0 : 0 ≤ room) (h1 : room ≤ 16777216) (w : World) : Calls Try.prog 45 #[.int .i64 room] w fun e w' => e = .returned (.tuple #[.pointer (some ⟨w.heap.size + 1, 0, none⟩), .int .i64 0]) ∧
    DiskAt w' (w.heap.size + 1) w.heap.size (fun _ => none) [] (fun b => b = w.heap.size ∨ b = w.heap.size + 1) (newD room) ∧ Below w.heap.size w w' := by
  have h2 : ¬ room < 0 := by omega
  have h3 : ¬ 16777216 < room := by omega
  have hmk := fun W : World => run_makeMap (P := Try.prog) 94 W
  go_enter Try.func45, Try.ntmps45
  go_wp2_with fail
  go_ret2
  have hb := World.alloc_heap_new (w.alloc (.map #[] 0)) (.cells #[.int .i64 room, .int .i64 0, .map (some w.heap.size), .bool false, .bool false, .int .i64 0] 96)
  rw [World.size_alloc] at hb
  have hu : (newD room).used = 0 := by
    show sumL (fun _ => 0) 64 = 0
    decide
  refine ⟨rfl, ⟨?_, (MapF.new w).kept (Below.heap_alloc _ _ _ (by simp)), by omega, .inr rfl, .inl rfl, fun _ _ => ⟨rfl, rfl⟩, fun k hk => absurd rfl hk, (fun _ _ _ _ h => by cases h), (fun _ _ _ _ _ _ _ _ _ _ h => by cases h), fun _ => Nat.le_refl _, ⟨h0, h1⟩, by rw [hu]; exact h0, (by show (0 : Nat) ≤ _; omega), fun b hb => by rcases hb with rfl | rfl <;> (simp only [World.size_alloc]; omega)⟩, ((Below.refl _ w).alloc (Nat.le_refl _) _).alloc (by simp) _⟩
  unfold dkO
  rw [hu]
  exact hb
end Go.Proofs.Ytpehnggglolnoaa
