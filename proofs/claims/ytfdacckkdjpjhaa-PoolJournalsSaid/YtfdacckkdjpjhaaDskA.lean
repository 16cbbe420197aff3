/- Package disk: what a disk is, and how it lies in memory. -/
import Derived.Test.YtfdacckkdjpjhaaStp
import Derived.Test.YtfdacckkdjpjhaaMapF
import Derived.Test.YtfdacckkdjpjhaaRefA
import Derived.Test.YtfdacckkdjpjhaaLibIn
import Derived.Test.YtfdacckkdjpjhaaSame
namespace Go.Proofs.Ytfdacckkdjpjhaa
open Go.RowKit

/-- A disk: the bytes of each file and how many of them are durable (none of an empty one). -/
structure Dk where
  room : Int
  fs : Int → List UInt8 × Nat
  off : Bool
  armed : Bool
  left : Nat
def sumL (f : Nat → Nat) (n : Nat) : Nat := ((List.range n).map f).sum
theorem sumL_succ (f : Nat → Nat) (n : Nat) : sumL f (n + 1) = sumL f n + f n := by
  unfold sumL
  rw [List.range_succ, List.map_append, List.sum_append]
  simp
theorem sumL_congr {f g : Nat → Nat} {n : Nat} (h : ∀ i, i < n → g i = f i) : sumL g n = sumL f n := by
  induction n with
  | zero => rfl
  | succ n ih => rw [sumL_succ, sumL_succ, ih (fun i hi => h i (by omega)), h n (by omega)]
theorem sumL_upd {f g : Nat → Nat} {k n : Nat} (hk : k < n) (h : ∀ i, i ≠ k → g i = f i) : sumL g n + f k = sumL f n + g k := by
  induction n with
  | zero => omega
  | succ n ih =>
    rw [sumL_succ, sumL_succ]
    by_cases e : k = n
    · subst e
      rw [sumL_congr (f := f) (fun i hi => h i (by omega))]
      omega
    · have := ih (by omega)
      have := h n (fun e2 => e e2.symm)
      omega
theorem sumL_le (f : Nat → Nat) {k n : Nat} (hk : k < n) : f k ≤ sumL f n := by
  induction n with
  | zero => omega
  | succ n ih =>
    rw [sumL_succ]
    by_cases e : k = n
    · subst e; omega
    · have := ih (by omega); omega
def Dk.used (D : Dk) : Nat := sumL (fun i => (D.fs (i : Int)).1.length) 64
def Dk.put (D : Dk) (k : Int) (b : List UInt8) (d : Nat) : Dk := { D with fs := fun j => if j = k then (b, if b = [] then 0 else d) else D.fs j }
theorem Dk.le_used (D : Dk) (k : Int) (h0 : 0 ≤ k) (h1 : k < 64) : (D.fs k).1.length ≤ D.used := by
  have e : ((k.toNat : Nat) : Int) = k := by omega
  have := sumL_le (fun i => (D.fs (i : Int)).1.length) (k := k.toNat) (n := 64) (by omega)
  simp only [e] at this
  exact this
theorem Dk.used_put (D : Dk) (k : Int) (b : List UInt8) (d : Nat) (h0 : 0 ≤ k) (h1 : k < 64) : (D.put k b d).used + (D.fs k).1.length = D.used + b.length := by
  have e : ((k.toNat : Nat) : Int) = k := by omega
  have := sumL_upd (f := fun i => (D.fs (i : Int)).1.length) (g := fun i => ((D.put k b d).fs (i : Int)).1.length) (k := k.toNat) (n := 64) (by omega) (fun i hi => by
    have hne : ¬ (i : Int) = k := by omega
    simp only [Dk.put, if_neg hne])
  simp only [e] at this
  have e2 : ((D.put k b d).fs k).1 = b := by simp [Dk.put]
  rw [e2] at this
  exact this
def newD (room : Int) : Dk := ⟨room, fun _ => ([], 0), false, false, 0⟩

/-- Its six cells. -/
def dkO (D : Dk) (mb : Nat) : Obj := .cells #[.int .i64 D.room, .int .i64 (D.used : Int), .map (some mb), .bool D.off, .bool D.armed, .int .i64 (D.left : Int)] 88 (0, 0)
/-- The disk in block p, its map in block mb, its blocks X; of the files ex the rows are not told. -/
structure DiskX (ex : Int → Prop) (w : World) (p mb : Nat) (F : Int → Option Value) (ks : List Int) (X : Nat → Prop) (D : Dk) : Prop where
  blk : w.heap[p]? = some (dkO D mb)
  map : MapF w mb F ks
  pm : p ≠ mb
  xp : X p
  xm : X mb
  emp : ∀ k, (D.fs k).1 = [] → F k = none ∧ (D.fs k).2 = 0
  ful : ∀ k, (D.fs k).1 ≠ [] → 0 ≤ k ∧ k < 64 ∧ ∃ a c, F k = some (.agg #[.slice a (D.fs k).1.length c, .int .i64 ((D.fs k).2 : Int)])
  row : ∀ k v d, ¬ ex k → F k = some (.agg #[v, d]) → w.ownsRow 0 5 1 v (D.fs k).1.length ((D.fs k).1.map vB) ∧ ∀ b, v.ownBlock = some b → X b ∧ b ≠ p ∧ b ≠ mb
  sep : ∀ j k u v d e b, ¬ ex j → ¬ ex k → j ≠ k → F j = some (.agg #[u, d]) → F k = some (.agg #[v, e]) → u.ownBlock = some b → v.ownBlock ≠ some b
  dur : ∀ k, (D.fs k).2 ≤ (D.fs k).1.length
  room : 0 ≤ D.room ∧ D.room ≤ 16777216
  used : (D.used : Int) ≤ D.room
  left : D.left ≤ 9223372036854775807
  xl : ∀ b, X b → b < w.heap.size
abbrev DiskAt := DiskX (fun _ => False)
section
variable {ex : Int → Prop} {w w' : World} {p mb : Nat} {F : Int → Option Value} {ks : List Int} {X : Nat → Prop} {D : Dk}
theorem DiskX.lt (h : DiskX ex w p mb F ks X D) : p < w.heap.size := (Array.getElem?_eq_some_iff.1 h.blk).1
theorem DiskX.c0 (h : DiskX ex w p mb F ks X D) : w.cell? ⟨p, 0, none⟩ = some (.int .i64 D.room) := by have := h.blk; unfold dkO at this; simp [World.cell?, this]
theorem DiskX.c1 (h : DiskX ex w p mb F ks X D) : w.cell? ⟨p, 1, none⟩ = some (.int .i64 (D.used : Int)) := by have := h.blk; unfold dkO at this; simp [World.cell?, this]
theorem DiskX.c2 (h : DiskX ex w p mb F ks X D) : w.cell? ⟨p, 2, none⟩ = some (.map (some mb)) := by have := h.blk; unfold dkO at this; simp [World.cell?, this]
theorem DiskX.c3 (h : DiskX ex w p mb F ks X D) : w.cell? ⟨p, 3, none⟩ = some (.bool D.off) := by have := h.blk; unfold dkO at this; simp [World.cell?, this]
theorem DiskX.c4 (h : DiskX ex w p mb F ks X D) : w.cell? ⟨p, 4, none⟩ = some (.bool D.armed) := by have := h.blk; unfold dkO at this; simp [World.cell?, this]
theorem DiskX.c5 (h : DiskX ex w p mb F ks X D) : w.cell? ⟨p, 5, none⟩ = some (.int .i64 (D.left : Int)) := by have := h.blk; unfold dkO at this; simp [World.cell?, this]
theorem DiskX.fz (h : DiskX ex w p mb F ks X D) (j : Nat) : w.frozen? ⟨p, j, none⟩ = false := by have := h.blk; unfold dkO at this; simp [World.frozen?, this]
/-- Where none of its blocks has changed. -/
theorem DiskX.kept (h : DiskX ex w p mb F ks X D) (hs : w.heap.size ≤ w'.heap.size) (hb : ∀ b, X b → w'.heap[b]? = w.heap[b]?) : DiskX ex w' p mb F ks X D :=
  ⟨(hb p h.xp).trans h.blk, h.map.kept (hb mb h.xm), h.pm, h.xp, h.xm, h.emp, h.ful, fun k v d hk hF => ⟨own_same (h.row k v d hk hF).1 (fun b hv => hb b ((h.row k v d hk hF).2 b hv).1), (h.row k v d hk hF).2⟩, h.sep, h.dur, h.room, h.used, h.left, fun b hX => Nat.lt_of_lt_of_le (h.xl b hX) hs⟩
theorem DiskX.later (h : DiskX ex w p mb F ks X D) (B : Below w.heap.size w w') : DiskX ex w' p mb F ks X D := h.kept B.size (fun b hX => B.block b (h.xl b hX))
theorem DiskX.weak (h : DiskAt w p mb F ks X D) (ex : Int → Prop) : DiskX ex w p mb F ks X D := ⟨h.blk, h.map, h.pm, h.xp, h.xm, h.emp, h.ful, fun k v d _ hF => h.row k v d id hF, fun j k u v d e b _ _ => h.sep j k u v d e b id id, h.dur, h.room, h.used, h.left, h.xl⟩
/-- The disk's own cells turned. -/
theorem DiskX.turn (h : DiskX ex w p mb F ks X D) {D' : Dk} (hb : w'.heap[p]? = some (dkO D' mb)) (hs : w.heap.size ≤ w'.heap.size) (hk : ∀ k, k < w.heap.size → k ≠ p → w'.heap[k]? = w.heap[k]?) (hf : D'.fs = D.fs) (hr : D'.room = D.room) (hl : D'.left ≤ 9223372036854775807) : DiskX ex w' p mb F ks X D' := by
  have hu : D'.used = D.used := by unfold Dk.used; rw [hf]
  have hx := fun b (hb : X b) (hp : b ≠ p) => hk b (h.xl b hb) hp
  refine ⟨hb, h.map.kept (hx mb h.xm (fun e => h.pm e.symm)), h.pm, h.xp, h.xm, by rw [hf]; exact h.emp, by rw [hf]; exact h.ful, fun k v d hke hF => ?_, h.sep, by rw [hf]; exact h.dur, by rw [hr]; exact h.room, by rw [hr, hu]; exact h.used, hl, fun b hX => Nat.lt_of_lt_of_le (h.xl b hX) hs⟩
  obtain ⟨h1, h2⟩ := h.row k v d hke hF
  rw [hf]
  exact ⟨own_same h1 (fun b hv => hx b (h2 b hv).1 (h2 b hv).2.1), h2⟩
/-- What 'd.files[k]' is: its slice. -/
theorem DiskX.look (h : DiskX ex w p mb F ks X D) (k : Int) : ∃ a c, (F k).getD (.agg #[.slice none 0 0, .int .i64 0]) = .agg #[.slice a (D.fs k).1.length c, .int .i64 ((D.fs k).2 : Int)] := by
  by_cases he : (D.fs k).1 = []
  · obtain ⟨h1, h2⟩ := h.emp k he
    rw [h1, he, h2]
    exact ⟨none, 0, rfl⟩
  · obtain ⟨_, _, a, c, hF⟩ := h.ful k he
    rw [hF]
    exact ⟨a, c, rfl⟩
end
end Go.Proofs.Ytfdacckkdjpjhaa
