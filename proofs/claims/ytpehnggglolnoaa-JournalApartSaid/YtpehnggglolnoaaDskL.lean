/- Package disk: the contracts in one form; lives. -/
import Derived.Test.YtpehnggglolnoaaDskK
namespace Go.Proofs.Ytpehnggglolnoaa
open Go.RowKit

/-- The disk D lies in block p; its blocks are X. -/
def DAt (w : World) (p : Nat) (X : Nat → Prop) (D : Dk) : Prop := ∃ mb F ks, DiskAt w p mb F ks X D
/-- What two things lie in is apart. -/
def Sep (X Z : Nat → Prop) : Prop := ∀ b, X b → ¬ Z b
def Off (v : Value) (X : Nat → Prop) : Prop := ∀ b, v.ownBlock = some b → ¬ X b
section
variable {w w' : World} {p q : Nat} {X X' Y Z : Nat → Prop} {D E : Dk}
theorem DAt.xl (h : DAt w p X D) : ∀ b, X b → b < w.heap.size := by obtain ⟨_, _, _, h⟩ := h; exact h.xl
theorem DAt.xp (h : DAt w p X D) : X p := by obtain ⟨_, _, _, h⟩ := h; exact h.xp
theorem DAt.later (h : DAt w p X D) (B : Below w.heap.size w w') : DAt w' p X D := by obtain ⟨_, _, _, h⟩ := h; exact ⟨_, _, _, h.later B⟩
theorem DAt.other (h : DAt w q Z E) (S : DStep X X' w w') (hs : Sep X Z) : DAt w' q Z E := by
  obtain ⟨mb, F, ks, h⟩ := h
  exact ⟨mb, F, ks, h.kept S.size (fun b hb => S.block b (h.xl b hb) (fun hx => hs b hx hb))⟩
theorem Sep.step (hs : Sep X Z) (S : DStep X X' w w') (hz : ∀ b, Z b → b < w.heap.size) : Sep X' Z := fun b hb hZ => (S.grow b hb).elim (fun h => hs b h hZ) (fun h => by have := hz b hZ; omega)
theorem Sep.symm (hs : Sep X Z) : Sep Z X := fun b hz hx => hs b hx hz
theorem Off.step {base n : Nat} {e : TypeId} {v : Value} {xs : List Value} (ho : Off v X) (S : DStep X X' w w') (hO : w.ownsRow base e 1 v n xs) : Off v X' := fun b hb hx => (S.grow b hx).elim (ho b hb) (fun h => by have := (hO.lt b hb).2; omega)
theorem own_step {base n : Nat} {e : TypeId} {v : Value} {xs : List Value} (hO : w.ownsRow base e 1 v n xs) (S : DStep X X' w w') (ho : Off v X) : w'.ownsRow base e 1 v n xs := own_same hO (fun b hb => S.block b (hO.lt b hb).2 (ho b hb))
theorem Off.ge {base n : Nat} {e : TypeId} {v : Value} {xs : List Value} (hO : w.ownsRow base e 1 v n xs) (hX : ∀ b, X b → b < base) : Off v X := fun b hb hx => by have := (hO.lt b hb).1; have := hX b hx; omega
theorem Off.lo {base n : Nat} {e : TypeId} {v : Value} {xs : List Value} (hO : w.ownsRow base e 1 v n xs) (hX : ∀ b, X b → w.heap.size ≤ b) : Off v X := fun b hb hx => by have := (hO.lt b hb).2; have := hX b hx; omega
theorem rv_step {v : Value} {n : Nat} {us : List Value} (h : Rv w v n us) (S : DStep X X' w w') (ho : Off v X) : Rv w' v n us := rvSame h (fun g hg hv => S.block g hg (ho g hv))
theorem DStep.toBelow (S : DStep X X' w w') {B : Nat} (hB : B ≤ w.heap.size) (hX : ∀ b, X b → B ≤ b) : Below B w w' := ⟨S.os, S.tape, S.output, S.size, fun k hk => S.block k (by omega) (fun hx => by have := hX k hx; omega)⟩
theorem DStep.ge (S : DStep X X' w w') {B : Nat} (hB : B ≤ w.heap.size) (hX : ∀ b, X b → B ≤ b) : ∀ b, X' b → B ≤ b := fun b hb => (S.grow b hb).elim (hX b) (fun h => by omega)
end
section
variable (w : World) {p : Nat} {X : Nat → Prop} {D : Dk}
theorem dnew (room : Int) (h0 : 0 ≤ room) (h1 : room ≤ 16777216) : Calls Try.prog 45 #[.int .i64 room] w fun e w' => ∃ p X, e = .returned (.tuple #[.pointer (some ⟨p, 0, none⟩), .int .i64 0]) ∧ DAt w' p X (newD room) ∧ (∀ b, X b → w.heap.size ≤ b) ∧ Below w.heap.size w w' :=
  (new_any room h0 h1 w).mono fun _ _ ⟨he, hD, hB⟩ => ⟨_, _, he, ⟨_, _, _, hD⟩, fun b hb => by rcases hb with rfl | rfl <;> omega, hB⟩
theorem dappend (k : Int) (bv : Value) (b : List UInt8) (h : DAt w p X D) (hb : Rv w bv b.length (b.map vB)) (hbX : Off bv X) (hbl : b.length ≤ 1000000000) :
    Calls Try.prog 44 #[.pointer (some ⟨p, 0, none⟩), .int .i64 k, bv] w fun e w' => e = .returned (.int .i64 (D.append k b).1) ∧ ∃ X', DAt w' p X' (D.append k b).2 ∧ DStep X X' w w' := by
  obtain ⟨mb, F, ks, h⟩ := h
  refine (append_any k bv b w h hb hbX hbl).mono ?_
  rintro e w' ⟨rfl, F', ks', X', hD, S⟩
  exact ⟨rfl, X', ⟨_, _, _, hD⟩, S⟩
theorem dread (k : Int) (h : DAt w p X D) : Calls Try.prog 46 #[.pointer (some ⟨p, 0, none⟩), .int .i64 k] w fun e w' => ∃ v, e = .returned (.tuple #[v, .int .i64 (D.read k).2]) ∧ w'.ownsRow w.heap.size 5 1 v (D.read k).1.length ((D.read k).1.map vB) ∧ Below w.heap.size w w' := by
  obtain ⟨mb, F, ks, h⟩ := h
  refine (dkRead_any k w h).mono ?_
  rintro e w' ⟨v, rfl, M⟩
  have := M.1
  rw [List.length_map] at this
  exact ⟨v, rfl, this, M.2⟩
theorem dtrunc (k s : Int) (hs : s ≤ 9223372036854775807) (h : DAt w p X D) : Calls Try.prog 47 #[.pointer (some ⟨p, 0, none⟩), .int .i64 k, .int .i64 s] w fun e w' => e = .returned (.int .i64 (D.trunc k s).1) ∧ ∃ X', DAt w' p X' (D.trunc k s).2 ∧ DStep X X' w w' := by
  obtain ⟨mb, F, ks, h⟩ := h
  refine (trunc_any k s hs w h).mono ?_
  rintro e w' ⟨rfl, F', ks', X', hD, S⟩
  exact ⟨rfl, X', ⟨_, _, _, hD⟩, S⟩
theorem dsync (h : DAt w p X D) : Calls Try.prog 48 #[.pointer (some ⟨p, 0, none⟩)] w fun e w' => e = .returned (.int .i64 D.sync.1) ∧ DAt w' p X D.sync.2 ∧ DStep X X w w' := by
  obtain ⟨mb, F, ks, h⟩ := h
  refine (sync_any w h).mono ?_
  rintro e w' ⟨rfl, F', ks', hD, S⟩
  exact ⟨rfl, ⟨_, _, _, hD⟩, S⟩
theorem darm (n : Int) (hn : n ≤ 9223372036854775807) (h : DAt w p X D) : Calls Try.prog 12 #[.pointer (some ⟨p, 0, none⟩), .int .i64 n] w fun e w' => e = .returned (.tuple #[]) ∧ DAt w' p X (D.arm n) ∧ DStep X X w w' := by
  obtain ⟨mb, F, ks, h⟩ := h
  refine (arm_any n hn w h).mono ?_
  rintro e w' ⟨rfl, hD, S⟩
  exact ⟨rfl, ⟨_, _, _, hD⟩, S.toD h.xp⟩
theorem dcrash (keep : List Int) (kv : Value) (flip : Int) (hf64 : flip ≤ 9223372036854775807) (hk64 : ∀ x ∈ keep, x ≤ 9223372036854775807) (h : DAt w p X D) (hkv : Rv w kv keep.length (keep.map (Value.int .i64))) (hkX : Off kv X) :
    Calls Try.prog 19 #[.pointer (some ⟨p, 0, none⟩), kv, .int .i64 flip] w fun e w' => e = .returned (.tuple #[]) ∧ DAt w' p X (D.crash keep flip) ∧ DStep X X w w' := by
  obtain ⟨mb, F, ks, h⟩ := h
  refine (crash_any keep kv flip hf64 hk64 w h hkv hkX).mono ?_
  rintro e w' ⟨rfl, F', ks', hD, S⟩
  exact ⟨rfl, ⟨_, _, _, hD⟩, S⟩
theorem dused (h : DAt w p X D) : Calls Try.prog 41 #[.pointer (some ⟨p, 0, none⟩)] w fun e w' => e = .returned (.int .i64 (D.used : Int)) ∧ ∃ n, w' = w.drewN n := by
  obtain ⟨mb, F, ks, h⟩ := h
  exact used_any w h
theorem dfiles (h : DAt w p X D) : Calls Try.prog 57 #[.pointer (some ⟨p, 0, none⟩)] w fun e w' => ∃ v, e = .returned v ∧ w'.ownsRow w.heap.size 3 1 v D.files.length (D.files.map (Value.int .i64)) ∧ Below w.heap.size w w' := by
  obtain ⟨mb, F, ks, h⟩ := h
  refine (files_any w h).mono ?_
  rintro e w' ⟨v, rfl, M⟩
  have := M.1
  rw [List.length_map] at this
  exact ⟨v, rfl, this, M.2⟩
end
def lv1 : Dk := ((newD 100).append 3 [1, 2]).2
def lv2 : Dk := lv1.sync.2
def lv3 : Dk := (lv2.append 3 [255]).2
def lv4 : Dk := lv3.crash [1] 7
def lv5 : Dk := lv3.crash [] 7
def lv6 : Dk := lv5.arm 0
def lv7 : Dk := (lv6.append 1 []).2
theorem lv4_read : lv4.read 3 = ([1, 2, 254], 0) := by kernel_rfl
theorem lv5_read : lv5.read 3 = ([1, 2], 0) := by kernel_rfl
theorem lv6_append : (lv6.append 1 []).1 = 19 := by kernel_rfl
theorem lv7_read : lv7.read 3 = ([], 19) := by kernel_rfl
end Go.Proofs.Ytpehnggglolnoaa
