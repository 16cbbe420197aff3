/- rexmillref02.Reader: the bytes that are left and the error. -/
import Derived.Test.YtadhghikanjkeaaRdI
import Derived.Test.YtadhghikanjkeaaRefW
namespace Go.Proofs.Ytadhghikanjkeaa
open Go.RowKit

/-- A model's Reader in block b: what is left lies in a row below D. -/
structure Mq (w : World) (b D : Nat) (v : Value) (l : List UInt8) (e : Int) : Prop where
  hp : w.heap[b]? = some (.cells #[v, .int .i64 e] 96 (0, 0))
  rv : Rv w v l.length (l.map vB)
  lo : Low D v
section
variable {w : World} {b D : Nat} {v : Value} {l : List UInt8} {e : Int}
theorem Mq.lt (h : Mq w b D v l e) : b < w.heap.size := (Array.getElem?_eq_some_iff.1 h.hp).1
theorem Mq.cell0 (h : Mq w b D v l e) : w.cell? ⟨b, 0, none⟩ = some v := by simp [World.cell?, h.hp]
theorem Mq.cell1 (h : Mq w b D v l e) : w.cell? ⟨b, 1, none⟩ = some (.int .i64 e) := by simp [World.cell?, h.hp]
theorem Mq.frozen (h : Mq w b D v l e) (j : Nat) : w.frozen? ⟨b, j, none⟩ = false := by simp [World.frozen?, h.hp]
theorem Mq.nb (h : Mq w b D v l e) (hD : D ≤ b) : v.ownBlock ≠ some b := fun e => by have := h.lo b e; omega
theorem Mq.set (h : Mq w b D v l e) (hD : D ≤ b) {v' : Value} {l' : List UInt8} (hr : Rv w v' l'.length (l'.map vB)) (hl : Low D v') : Mq (w.setCell ⟨b, 0, none⟩ v') b D v' l' e :=
  ⟨heap_set h.hp 0 v', hr.bstep ((BStep.refl b w).set 0 _) (fun e => by have := hl b e; omega), hl⟩
theorem Mq.err (h : Mq w b D v l e) (hD : D ≤ b) (e' : Int) : Mq (w.setCell ⟨b, 1, none⟩ (.int .i64 e')) b D v l e' :=
  ⟨heap_set h.hp 1 _, h.rv.bstep ((BStep.refl b w).set 1 _) (h.nb hD), h.lo⟩
theorem Mq.bstep {w' : World} {c : Nat} (h : Mq w b D v l e) (hs : BStep c w w') (hbc : b ≠ c) (hc : D ≤ c) : Mq w' b D v l e :=
  ⟨(hs.block b h.lt hbc).trans h.hp, h.rv.bstep hs (fun e => by have := h.lo c e; omega), h.lo⟩
theorem Mq.drewN (h : Mq w b D v l e) (n : Nat) : Mq (w.drewN n) b D v l e := ⟨h.hp, h.rv, h.lo⟩
theorem Mq.later {w' : World} (h : Mq w b D v l e) (hb : Below w.heap.size w w') : Mq w' b D v l e :=
  ⟨(hb.block b h.lt).trans h.hp, h.rv.below hb, h.lo⟩
end

inductive Mst (w : World) (b D : Nat) : RS → Prop
  | ok {v : Value} {l : List UInt8} (h : Mq w b D v l 0) : Mst w b D (.ok l)
  | bad {v : Value} {l : List UInt8} {e : Int} (he : e ≠ 0) (h : Mq w b D v l e) : Mst w b D (.error e)
theorem Mst.ok_inv {w : World} {b D : Nat} {l : List UInt8} (h : Mst w b D (.ok l)) : ∃ v, Mq w b D v l 0 := by
  cases h with
  | ok h => exact ⟨_, h⟩
theorem Mst.bad_inv {w : World} {b D : Nat} {e : Int} (h : Mst w b D (.error e)) : ∃ v l, e ≠ 0 ∧ Mq w b D v l e := by
  cases h with
  | bad he h => exact ⟨_, _, he, h⟩
theorem Mst.lt {w : World} {b D : Nat} {s : RS} (h : Mst w b D s) : b < w.heap.size := by
  cases h with
  | ok h => exact h.lt
  | bad he h => exact h.lt
theorem Mst.bstep {w w' : World} {b D c : Nat} {s : RS} (h : Mst w b D s) (hs : BStep c w w') (hbc : b ≠ c) (hc : D ≤ c) : Mst w' b D s := by
  cases h with
  | ok h => exact .ok (h.bstep hs hbc hc)
  | bad he h => exact .bad he (h.bstep hs hbc hc)
theorem Mst.later {w w' : World} {b D : Nat} {s : RS} (h : Mst w b D s) (hb : Below w.heap.size w w') : Mst w' b D s := by
  cases h with
  | ok h => exact .ok (h.later hb)
  | bad he h => exact .bad he (h.later hb)

def MPost (w : World) (b D : Nat) (s : RS) (x : Value) (en : Ending) (w' : World) : Prop := en = .returned x ∧ Mst w' b D s ∧ BStep b w w'

/-- What is left behind the first k bytes. -/
theorem Mq.cut {w : World} {b D : Nat} {ao : Option Addr} {n cap : Nat} {l : List UInt8} {e : Int} (h : Mq w b D (.slice ao n cap) l e) (k : Nat) (hk : k ≤ l.length) :
    n = l.length ∧ n ≤ cap ∧ Rv w (.slice (if cap = k then ao else ao.map (·.add k)) (l.length - k) (cap - k)) (l.drop k).length ((l.drop k).map vB) ∧ Low D (.slice (if cap = k then ao else ao.map (·.add k)) (l.length - k) (cap - k)) := by
  obtain ⟨a', c', h1, h2, h3⟩ := h.rv.sliced 1 k l.length hk (Nat.le_refl _)
  cases h1
  refine ⟨rfl, h2, ?_, fun g hg => h.lo g ?_⟩
  · rw [List.length_drop, List.map_drop]
    simp only [Nat.mul_one] at h3
    rw [show (List.drop k (l.map vB)).take (l.length - k) = List.drop k (l.map vB) from List.take_of_length_le (by simp)] at h3
    exact h3
  · cases ao with
    | none => by_cases hc : cap = k <;> simp [hc, Value.ownBlock] at hg
    | some p =>
      by_cases hc : cap = k
      · simpa [hc, Value.ownBlock] using hg
      · simp only [hc, if_false, Option.map_some] at hg
        have : (p.add k).block = p.block := by unfold Addr.add; split <;> rfl
        simpa [Value.ownBlock, this] using hg

theorem Mq.cutL {w : World} {b D g off : Nat} {n cap : Nat} {l : List UInt8} {e : Int} (h : Mq w b D (.slice (some ⟨g, off, none⟩) n cap) l e) (hD : D ≤ b) (k : Nat) (hk : k ≤ l.length) (off' : Nat) (ho : off' = if cap = k then off else off + k) (n' c' : Nat) (hn : n' = l.length - k) (hc' : c' = cap - k) :
    Mq (w.setCell ⟨b, 0, none⟩ (.slice (some ⟨g, off', none⟩) n' c')) b D (.slice (some ⟨g, off', none⟩) n' c') (l.drop k) e := by
  subst hn hc'
  obtain ⟨_, _, h1, h2⟩ := h.cut k hk
  have e1 : (if cap = k then some ⟨g, off, none⟩ else (some (⟨g, off, none⟩ : Addr)).map (·.add k)) = some ⟨g, off', none⟩ := by
    by_cases hc : cap = k
    · simp [hc, ho]
    · simp only [hc, if_false, ho, Option.map_some]
      unfold Addr.add
      split <;> simp_all
  rw [e1] at h1 h2
  exact h.set hD h1 h2

theorem mul_step (i n : Nat) (c : UInt8) (hi : i ≤ 9) (hn : n < 128 ^ i) (hc : i = 9 → c.toNat ≤ 1) :
    IntKind.u64.wrap ((n : Int) + IntKind.u64.wrap ((c.toNat : Int) % 128 * ((128 ^ i : Nat) : Int))) = ((n + 128 ^ i * (c.toNat % 128) : Nat) : Int) := by
  have hm := Nat.mod_lt c.toNat (y := 128) (by omega)
  have hb : n + 128 ^ i * (c.toNat % 128) < 18446744073709551616 := by
    have h0 : i = 0 ∨ i = 1 ∨ i = 2 ∨ i = 3 ∨ i = 4 ∨ i = 5 ∨ i = 6 ∨ i = 7 ∨ i = 8 ∨ i = 9 := by omega
    rcases h0 with rfl | rfl | rfl | rfl | rfl | rfl | rfl | rfl | rfl | rfl <;> simp only [Nat.reducePow] at hn ⊢ <;> first | omega | (have := hc rfl; omega)
  rw [IntKind.wrap_u64, IntKind.wrap_u64, show ((c.toNat : Int) % 128 * ((128 ^ i : Nat) : Int)) = ((128 ^ i * (c.toNat % 128) : Nat) : Int) from by rw [Nat.mul_comm]; rfl]
  generalize 128 ^ i * (c.toNat % 128) = x at *
  omega
theorem unit_step (i : Nat) (hi : i < 9) : IntKind.u64.wrap (((128 ^ i : Nat) : Int) * 128) = ((128 ^ (i + 1) : Nat) : Int) := by
  rw [IntKind.wrap_u64]
  have h0 : i = 0 ∨ i = 1 ∨ i = 2 ∨ i = 3 ∨ i = 4 ∨ i = 5 ∨ i = 6 ∨ i = 7 ∨ i = 8 := by omega
  rcases h0 with rfl | rfl | rfl | rfl | rfl | rfl | rfl | rfl | rfl <;> rfl
end Go.Proofs.Ytadhghikanjkeaa
