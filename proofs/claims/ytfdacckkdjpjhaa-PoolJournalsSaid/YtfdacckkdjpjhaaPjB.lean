/- The law PoolJournals: its disk and log, and what it holds in memory. -/
import Derived.Test.YtfdacckkdjpjhaaPjA
import Derived.Test.YtfdacckkdjpjhaaJlD
import Derived.Test.YtfdacckkdjpjhaaPlQ
namespace Go.Proofs.Ytfdacckkdjpjhaa
open Go.RowKit

/-- A record: the task and the answer. -/
def jrec (x : Int × List UInt8) : List UInt8 := zvar x.1 ++ rawW x.2
theorem jrec_len {x : Int × List UInt8} (h : x.2.length = 2) : (jrec x).length ≤ 22 := by
  have h1 : (zvar x.1).length ≤ 10 := uvar_len _
  have h2 := uvar_len x.2.length
  unfold jrec rawW
  rw [List.length_append, List.length_append]
  omega
/-- The law's log. -/
structure JouF (D : Dk) (n : Nat) (K : List (List UInt8)) : Prop where
  ok : LogOk D 2 K
  room : D.room = 100000
  used : D.used ≤ 70 * n
  dur : ∀ j, (D.fs j).2 = (D.fs j).1.length
theorem JouF.new : ∃ E, (newD 100000).logOpen 2 = (0, E, []) ∧ JouF E 0 [] := by
  obtain ⟨E, h1, h2, h3, h4, _, h6⟩ := logOpen_all (newD_okk 100000 (by decide) (by decide)) (newD_log 100000 2) (by decide)
  rw [newD_used0] at h4
  exact ⟨E, h1, h2, h3, by omega, h6⟩
theorem JouF.more {D : Dk} {n m : Nat} {K : List (List UInt8)} (h : JouF D n K) (hm : n ≤ m) : JouF D m K := ⟨h.ok, h.room, by have := h.used; omega, h.dur⟩
theorem JouF.app {D : Dk} {n : Nat} {K : List (List UInt8)} (h : JouF D n K) {b : List UInt8} (hb : b.length ≤ 22) (hn : n ≤ 90) : ∃ E, D.logApp 2 ⟨K.length, false⟩ b = (0, E, ⟨K.length + 1, false⟩) ∧ JouF E (n + 1) (K ++ [b]) := by
  have hl := frameM_lens (K.length : Int) b
  have hu := h.used
  obtain ⟨E, h1, h2, h3, h4, h5, h6⟩ := logApp_ok h.ok (by decide) b (by omega) (by rw [h.room]; omega)
  exact ⟨E, h1, h2, h3.trans h.room, by omega, h6⟩
/-- After a crash everything is there. -/
theorem JouF.crash {D : Dk} {n : Nat} {K : List (List UInt8)} (h : JouF D n K) (hD : DOk D) (keep : List Int) (hC : DOk (D.crash keep (-1))) : ∃ E, (D.crash keep (-1)).logOpen 2 = (0, E, K) := by
  have hl : LogOk (D.crash keep (-1)) 2 K := ⟨rfl, rfl, (crash_same hD h.dur keep (-1) 2).trans h.ok.fs⟩
  obtain ⟨E, h1, _⟩ := logOpen_all hC hl (by decide)
  exact ⟨E, h1⟩
theorem jask_n {D : Pl} {n : Nat} (h : TL n D) (x t : Int) : 0 ≤ (D.ask x t).1.n ∧ (D.ask x t).1.n ≤ (n : Int) := by
  rcases ask_cases D x t with ⟨h1, _⟩ | ⟨j, v, k, e, _, _, _, _, _, hp, ha⟩
  · unfold Pl.ask
    split
    · exact ⟨Int.le_refl _, Int.natCast_nonneg _⟩
    · split
      · exact ⟨Int.le_refl _, Int.natCast_nonneg _⟩
      · split
        · exact ⟨Int.le_refl _, Int.natCast_nonneg _⟩
        · split
          · exact ⟨Int.le_refl _, Int.natCast_nonneg _⟩
          · split
            · exact ⟨Int.le_refl _, Int.natCast_nonneg _⟩
            · rename_i k e hp
              obtain ⟨_, hts, _, _⟩ := pickIn_some hp
              have := h k e hts
              exact ⟨Int.natCast_nonneg _, by show ((e.tries.length : Nat) : Int) ≤ _; omega⟩
  · obtain ⟨_, hts, _, _⟩ := pickIn_some hp
    have := h k e hts
    rw [ha]
    exact ⟨Int.natCast_nonneg _, by show ((e.tries.length : Nat) : Int) ≤ _; omega⟩
/-- The law's pool, its disk and its log. -/
structure JouM (w W : World) (p : Nat) (Z : Nat → Prop) (P : Pl) (d q : Nat) (X : Nat → Prop) (D : Dk) (g : Lg) : Prop where
  pz : PZ W p Z P
  jl : JL w W d q X D 2 g
  sep : Sep Z X
  nz : ¬ Z q
  zb : ∀ b, Z b → w.heap.size ≤ b
section
variable {w W W' : World} {p d q : Nat} {Z Z' X X' : Nat → Prop} {P P' : Pl} {D D' : Dk} {g g' : Lg}
theorem JouM.bel (h : JouM w W p Z P d q X D g) : Below w.heap.size w W := h.jl.js.be
theorem JouM.later (h : JouM w W p Z P d q X D g) (B : Below W.heap.size W W') : JouM w W' p Z P d q X D g := ⟨h.pz.later B, h.jl.later B, h.sep, h.nz, h.zb⟩
/-- An operation of the pool. -/
theorem JouM.pool (h : JouM w W p Z P d q X D g) (H : PZ W' p Z' P') (S : DStep Z Z' W W') : JouM w W' p Z' P' d q X D g :=
  ⟨H, ⟨⟨h.jl.js.d.other S h.sep, h.jl.js.lo, h.jl.js.be.trans (S.toBelow h.bel.size h.zb)⟩, h.jl.lg.step S h.nz, h.jl.qlo, h.jl.nq⟩, h.sep.step S h.jl.js.d.xl, fun hx => (S.grow q hx).elim h.nz (fun h1 => by have := h.jl.lg.lt; omega), S.ge h.bel.size h.zb⟩
/-- An operation of the log. -/
theorem JouM.log (h : JouM w W p Z P d q X D g) (H : JL w W' d q X' D' 2 g') (S : DStep (fun b => X b ∨ b = q) (fun b => X' b ∨ b = q) W W') : JouM w W' p Z P d q X' D' g' := by
  have hs : Sep Z fun b => X b ∨ b = q := fun b hz hx => hx.elim (h.sep b hz) (fun e => h.nz (e ▸ hz))
  exact ⟨h.pz.other S hs, H, fun b hz hx => (hs.symm.step S h.pz.zl) b (.inl hx) hz, h.nz, h.zb⟩
theorem jm_add (id : Int) (bv : Value) (b : List UInt8) (W : World) (h : JouM w W p Z P d q X D g) (hi : id ≤ 9223372036854775807) (hb : Rv W bv b.length (b.map vB)) (hbl : b.length ≤ 1000000000) :
    Calls Try.prog 13 #[.pointer (some ⟨p, 0, none⟩), .agg #[.int .i64 id, bv]] W fun e W' => e = .returned (.int .i64 (P.add id b).1) ∧ ∃ Z', JouM w W' p Z' (P.add id b).2 d q X D g := by
  refine (pz_add id bv b W h.pz hi hb hbl).mono ?_
  rintro e w' ⟨rfl, Z', H, S⟩
  exact ⟨rfl, Z', h.pool H S⟩
theorem jm_ask (x t : Int) {n : Nat} (W : World) (h : JouM w W p Z P d q X D g) (ht : TL n P) (hn : n ≤ 1000000) :
    Calls Try.prog 15 #[.pointer (some ⟨p, 0, none⟩), .int .i64 x, .int .i64 t] W fun e W' => ∃ bv Z', e = .returned (.tuple #[.agg #[.int .i64 (P.ask x t).1.id, bv], .int .i64 (P.ask x t).1.n, .bool (P.ask x t).1.is, .int .i64 (P.ask x t).1.err]) ∧
      W'.ownsRow W.heap.size 5 1 bv (P.ask x t).1.body.length ((P.ask x t).1.body.map vB) ∧ JouM w W' p Z' (P.ask x t).2 d q X D g ∧ TL (n + 1) (P.ask x t).2 := by
  refine (pz_ask x t W h.pz ht (by omega)).mono ?_
  rintro e w' ⟨bv, Z', rfl, hO, H, S, ho⟩
  exact ⟨bv, Z', rfl, hO, h.pool H S, ht.ask x t⟩
theorem jm_answer (task worker tr : Int) (v : Value) (b : List UInt8) (t : Int) (W : World) (h : JouM w W p Z P d q X D g) (htr : -9223372036854775808 ≤ tr ∧ tr ≤ 9223372036854775807) (hv : Rv W v b.length (b.map vB)) (hbl : b.length ≤ 1000000000) (ho : Off v Z) :
    Calls Try.prog 16 #[.pointer (some ⟨p, 0, none⟩), .agg #[.int .i64 task, .int .i64 worker, .int .i64 tr, v], .int .i64 t] W fun e W' => e = .returned (.tuple #[.bool (P.answer task worker tr b t).1, .int .i64 (P.answer task worker tr b t).2.1]) ∧
      ∃ Z', JouM w W' p Z' (P.answer task worker tr b t).2.2 d q X D g ∧ DStep Z Z' W W' := by
  refine (pz_answer task worker tr v b t W h.pz htr hv hbl ho).mono ?_
  rintro e w' ⟨rfl, Z', H, S⟩
  exact ⟨rfl, Z', h.pool H S, S⟩
theorem jm_append (bv : Value) (b : List UInt8) (W : World) (h : JouM w W p Z P d q X D g) (hb : Rv W bv b.length (b.map vB)) (hbl : b.length ≤ 1000000000) (hn : g.n ≤ 1000000000) {r : Int} (ha : D.logApp 2 g b = (r, D', g')) :
    Calls Try.prog 19 #[.pointer (some ⟨q, 0, none⟩), bv] W fun e W' => e = .returned (.int .i64 r) ∧ ∃ X', JouM w W' p Z P d q X' D' g' := by
  refine (jappend h.jl bv b hb hbl hn ha).mono ?_
  rintro e w' ⟨rfl, X', H, S⟩
  exact ⟨rfl, X', h.log H S⟩
end
end Go.Proofs.Ytfdacckkdjpjhaa
