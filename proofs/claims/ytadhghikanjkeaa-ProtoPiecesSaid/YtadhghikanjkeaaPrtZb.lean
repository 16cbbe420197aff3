/- A reader that has been fed some bytes in pieces, and the list of what it returned. -/
import Derived.Test.YtadhghikanjkeaaPrtZa
import Derived.Test.YtadhghikanjkeaaPrtVc
namespace Go.Proofs.Ytadhghikanjkeaa
open Go.RowKit

theorem feedP_left2 (n : Nat) : ∀ b : List UInt8, b.length ≤ n → (feedP b).1.length + (feedP b).2.1.length ≤ b.length := by
  induction n with
  | zero =>
    intro b hb
    obtain rfl : b = [] := List.eq_nil_of_length_eq_zero (by omega)
    rw [feedP_nil]
    simp
  | succ n ih =>
    intro b hb
    by_cases h3 : (decP b).2.2 = 3
    · rw [feedP_more h3]; simp
    · by_cases h0 : (decP b).2.2 = 0
      · have hs := decP_size b h0
        rw [feedP_one h0]
        have := ih (b.drop (decP b).2.1) (by rw [List.length_drop]; omega)
        rw [List.length_drop] at this
        simp only [List.length_cons]
        omega
      · rw [feedP_bad h3 h0]; simp

theorem ones_mv (L : List MV) : ∀ u ∈ mvcells L, u.oneCell' = true := by
  intro u hu
  obtain ⟨p, _, hp⟩ := List.mem_flatMap.1 hu
  simp only [MV.cells, List.mem_cons, List.not_mem_nil, or_false] at hp
  rcases hp with rfl | rfl | rfl | rfl | rfl | rfl <;> rfl
theorem MsV.base {N N' : Nat} {W : World} {v : Value} {l : List MV} (h : MsV N W v l) (hN : N' ≤ N) : MsV N' W v l :=
  ⟨own_base h.own hN, h.rd, fun p hp g hg => ⟨Nat.le_trans hN (h.low p hp g hg).1, (h.low p hp g hg).2⟩⟩

/-- The reader in block N, made behind the world W0, has been fed these bytes in pieces; G is what it returned. -/
structure Fs (N : Nat) (W0 W : World) (hv gv : Value) (held : List UInt8) (err : Int) (G : List MV) (done : List UInt8) : Prop where
  rd : PRd W N hv held err
  ms : MsV (N + 1) W gv G
  ap : Apart hv gv G
  bel : Below N W0 W
  ps : Hid (∃ ps : List (List UInt8), ps.flatten = done ∧ (0 < done.length → ps ≠ []) ∧ fedL [] 0 ps = (G.map MV.m, held, err))
  len : G.length + held.length ≤ done.length
theorem Fs.start {N : Nat} {W0 W : World} (h : PRd W N (.slice none 0 0) [] 0) (B : Below N W0 W) : Fs N W0 W (.slice none 0 0) (.slice none 0 0) [] 0 [] [] :=
  ⟨h, ⟨World.ownsRow_nil _ _ _ _, (fun _ h => by cases h), (fun _ h => by cases h)⟩, (fun _ h => by cases h), B, Lib.hid ⟨[], rfl, (fun h => absurd h (Nat.lt_irrefl 0)), rfl⟩, Nat.le_refl _⟩

section
variable {N : Nat} {W0 W W1 W2 : World} {hv gv hv' gv' x : Value} {held : List UInt8} {err : Int} {G L : List MV} {done bs : List UInt8}
/-- What the reader's failure and what it holds become. -/
def heldN (held bs : List UInt8) (err : Int) : List UInt8 := if err ≠ 0 then held else (feedP (held ++ bs)).2.1
def errN (held bs : List UInt8) (err : Int) : Int := if err ≠ 0 then err else (feedP (held ++ bs)).2.2
def msN (held bs : List UInt8) (err : Int) : List Msg := if err ≠ 0 then [] else (feedP (held ++ bs)).1
theorem msN_len (held bs : List UInt8) (err : Int) : (msN held bs err).length + (heldN held bs err).length ≤ held.length + bs.length := by
  unfold msN heldN
  by_cases he : err = 0
  · rw [if_neg (by simp [he]), if_neg (by simp [he])]
    have := feedP_left2 _ (held ++ bs) (Nat.le_refl _)
    rw [List.length_append] at this
    exact this
  · rw [if_pos he, if_pos he]
    simp

theorem errN_zero {held bs : List UInt8} {err : Int} (h : errN held bs err = 0) : err = 0 := by
  unfold errN at h
  by_cases he : err = 0
  · exact he
  · rw [if_pos he] at h
    exact absurd h he
theorem feedN_any (q : Nat) (hv : Value) (held bs : List UInt8) (err : Int) (v : Value) (w : World) (hR : PRd w q hv held err) (hb : Rv w v bs.length (bs.map vB)) (hl : held.length + bs.length ≤ 1000000) :
    Calls Try.prog 28 #[.pointer (some ⟨q, 0, none⟩), v] w fun e w' => ∃ (x : Value) (L : List MV) (hv' : Value), e = .returned (.tuple #[x, .int .i64 (errN held bs err)]) ∧ L.map MV.m = msN held bs err ∧ MsV w.heap.size w' x L ∧
      PRd w' q hv' (heldN held bs err) (errN held bs err) ∧ WStep w w' q hv hv' ∧ Apart hv' x L := feedAll_any q hv held bs err v w hR hb hl
/-- Behind the call of Feed: the row to which the messages are appended, and what is appended. -/
theorem Fs.mid (h : Fs N W0 W hv gv held err G done) (M : MsV W.heap.size W1 x L) (S : WStep W W1 N hv hv') :
    W1.ownsRow (N + 1) 33 6 gv G.length (mvcells G) ∧ Rv W1 x L.length (mvcells L) ∧ N + 1 ≤ W1.heap.size :=
  ⟨(h.ms.step S (Nat.lt_succ_self N) h.ap).own, Rv.of_own M.own, Nat.lt_of_lt_of_le h.rd.lt S.size⟩
theorem Fs.fed (h : Fs N W0 W hv gv held err G done) (hN : N ≤ W0.heap.size) (hL : L.map MV.m = msN held bs err) (M : MsV W.heap.size W1 x L) (R : PRd W1 N hv' (heldN held bs err) (errN held bs err))
    (S : WStep W W1 N hv hv') (A : Apart hv' x L) (O : W2.ownsRow (N + 1) 33 6 gv' (G.length + L.length) (mvcells G ++ mvcells L)) (g : W1.grownBy W2 gv.ownBlock) (s : SameOrNew W1 gv gv') :
    Fs N W0 W2 hv' gv' (heldN held bs err) (errN held bs err) (G ++ L) (done ++ bs) := by
  have hlt := h.rd.lt
  have MG := h.ms.step S (Nat.lt_succ_self N) h.ap
  have MX := M.base (show N + 1 ≤ W.heap.size from hlt)
  have A1 := h.ap.step h.ms S
  have hW1 : Below N W0 W1 := h.bel.trans ⟨S.os, S.tape, S.output, S.size, fun k hk => S.block k (by omega) (by omega) (fun e => by have := (h.rd.own.lt k e.symm).1; omega)⟩
  have hap : ∀ b, hv'.ownBlock = some b → gv.ownBlock ≠ some b := fun b hb => (A1 b hb).1
  refine ⟨R.grown g (fun b hb => by have := (MG.own.lt b hb).1; omega) hap, MG.join MX O g s (fun p hp b hb e => ?_), A1.join A s (fun b hb => (R.own.lt b hb).2), hW1.grown g (Nat.le_trans hN hW1.size) (fun b hb => by have := (MG.own.lt b hb).1; omega), ?_, ?_⟩
  · have h1 := (M.low p hp b hb).1
    have h2 := (h.ms.own.lt b e).2
    omega
  · obtain ⟨ps, h1, h2, h3⟩ := h.ps.out
    refine Lib.hid ⟨ps ++ [bs], by simp [h1], fun _ => by simp, ?_⟩
    rw [fedL_snoc, h3, List.map_append, hL]
    rfl
  · have := h.len
    have hl := msN_len held bs err
    rw [← hL, List.length_map] at hl
    rw [List.length_append, List.length_append]
    omega
end
end Go.Proofs.Ytadhghikanjkeaa
