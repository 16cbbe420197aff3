/- What the three ways' lists and errors are, opened; the plain law of the three frames. -/
import Derived.Test.YtadhghikanjkeaaPrtZc
namespace Go.Proofs.Ytadhghikanjkeaa
open Go.RowKit

/-- The frames of the first messages, one behind the other. -/
def allP (l : List Int) (k i : Nat) : List UInt8 := (List.range i).flatMap fun j => framedP (coreP (madeM l (k * j)))
theorem allP_succ (l : List Int) (k i : Nat) : allP l k (i + 1) = allP l k i ++ framedP (coreP (madeM l (k * i))) := by
  rw [allP, List.range_succ, List.flatMap_append]
  simp [allP]
theorem allP_len (l : List Int) (k i : Nat) : 20 * i ≤ (allP l k i).length ∧ (allP l k i).length ≤ 220 * i := by
  induction i with
  | zero => simp [allP]
  | succ i ih =>
    have := frame_len l (k * i)
    rw [allP_succ, List.length_append]
    omega
theorem allP_frames (l : List Int) (k i : Nat) : allP l k i = framesP ((List.range i).map fun j => madeM l (k * j)) := by
  rw [allP, framesP, List.flatMap_map]
theorem allP_valid (l : List Int) (k i : Nat) : ∀ m ∈ (List.range i).map (fun j => madeM l (k * j)), validM m = true := by
  intro m hm
  obtain ⟨j, _, rfl⟩ := List.mem_map.1 hm
  exact madeM_valid l _
theorem pieces_same (l : List Int) (X0 : List UInt8) (h : allP l 4 3 = X0) : (feedP X0).2.2 = 0 ∧ (feedP X0).1.length = 3 := by
  have := feed_frames ((List.range 3).map fun j => madeM l (4 * j)) [] (allP_valid l 4 3)
  rw [List.append_nil, ← allP_frames, h, feedP_nil] at this
  rw [this]
  exact ⟨rfl, rfl⟩
theorem pieces_bent (l : List Int) (X0 : List UInt8) (h : allP l 4 3 = X0) (k : Nat) (y c : UInt8) (hk : k < X0.length) (hy : X0[k]? = some y) (hc : c ≠ 0) : (feedP (X0.set k (y ^^^ c))).2.2 ≠ 0 := by
  rw [← h, allP_frames] at hk hy ⊢
  refine feed_bent _ k _ (allP_valid l 4 3) hk fun e => hc ?_
  rw [hy] at e
  have e2 := Option.some.inj e
  have : y ^^^ y = y ^^^ (y ^^^ c) := by rw [← e2]
  rw [UInt8.xor_self, ← UInt8.xor_assoc, UInt8.xor_self, UInt8.zero_xor] at this
  exact this.symm

theorem mvcells_at : ∀ (G : List MV) (i k : Nat) (u : Value) (hi : i < G.length), k < 6 → (G[i].cells)[k]? = some u → (mvcells G)[i * 6 + k]? = some u
  | [], i, k, u, hi, _, _ => by simp at hi
  | p :: G, i, k, u, hi, hk, hu => by
    have e : mvcells (p :: G) = p.cells ++ mvcells G := rfl
    have hl : p.cells.length = 6 := rfl
    cases i with
    | zero =>
      rw [e, Nat.zero_mul, Nat.zero_add, List.getElem?_append_left (by omega)]
      exact hu
    | succ i =>
      rw [e, List.getElem?_append_right (by omega), hl, show (i + 1) * 6 + k - 6 = i * 6 + k by omega]
      exact mvcells_at G i k u (by simpa using hi) hk (by simpa using hu)
theorem MsV.at {N : Nat} {W : World} {a : Option Addr} {n c : Nat} {G : List MV} {M : List Msg} (h : MsV N W (.slice a n c) G) (hM : G.map MV.m = M) (hn : n = M.length) (i : Nat) (hi : i < n) :
    ∃ g ab af cb cf m, M[i]? = some m ∧ a = some ⟨g, 0, none⟩ ∧ MCell W g (i * 6) m ab af cb cf ∧ Cells6 W m ab af cb cf := by
  subst hn
  have hl : M.length = G.length := by rw [← hM, List.length_map]
  obtain ⟨hl1, h0 | ⟨g, cap, cur, he, hb, hg, hn, hc, hs, ht⟩⟩ := h.own
  · have := h0.1
    injection this with h1 h2 h3
    omega
  · injection he with h1 h2 h3
    subst h1
    have hi2 : i < G.length := by omega
    have ho := h.own
    have hat : ∀ k u, k < 6 → (G[i].cells)[k]? = some u → W.cell? ⟨g, i * 6 + k, none⟩ = some u := fun k u hk hu => by
      have hx := Rv.of_own ho
      rw [← hl] at hx
      obtain ⟨g', o', e, hc2⟩ := hx.rd.cell (mvcells_at G i k u hi2 hk hu)
      cases e
      rw [Nat.zero_add] at hc2
      exact hc2
    refine ⟨g, G[i].ab, G[i].af, G[i].cb, G[i].cf, G[i].m, ?_, rfl, ⟨hat 0 _ (by omega) rfl, hat 1 _ (by omega) rfl, hat 2 _ (by omega) rfl, hat 3 _ (by omega) rfl, hat 4 _ (by omega) rfl, hat 5 _ (by omega) rfl⟩, h.rd _ (List.getElem_mem hi2)⟩
    rw [← hM, List.getElem?_map, List.getElem?_eq_getElem hi2]
    rfl
theorem OSt.open {N k K : Nat} {W : World} {lv ev : Value} {vs : List (Value × List MV)} {M : List Msg} {E : Int} (h : OSt N W lv ev vs K M E) (hk : vs.length = K) (hK : K = k + 1) :
    ∃ gL cL gE cE, lv = .slice (some ⟨gL, 0, none⟩) K cL ∧ ev = .slice (some ⟨gE, 0, none⟩) K cE ∧ K ≤ cL ∧ K ≤ cE ∧ (∀ j, j < K → W.cell? ⟨gE, j, none⟩ = some (.int .i64 E)) ∧
      ∀ j, j < K → ∃ a c G, W.cell? ⟨gL, j, none⟩ = some (.slice a M.length c) ∧ M.length ≤ c ∧ MsV N W (.slice a M.length c) G ∧ G.map MV.m = M := by
  subst hK
  have ol := h.ol
  rw [hk] at ol
  obtain ⟨gL, cL, rfl, _, hcL, hL, _⟩ := own_open ol
  obtain ⟨gE, cE, rfl, _, hcE, hE, _⟩ := own_open h.oe
  refine ⟨gL, cL, gE, cE, rfl, rfl, hcL, hcE, fun j hj => ?_, fun j hj => ?_⟩
  · rw [hE j hj, List.getElem?_replicate, if_pos hj]
  · have hv : j < vs.length := by omega
    have hx := hL j hj
    rw [List.getElem?_map, List.getElem?_eq_getElem hv] at hx
    obtain ⟨h1, h2⟩ := h.el _ (List.getElem_mem hv)
    generalize vs[j] = vg at h1 h2 hx
    obtain ⟨v, G⟩ := vg
    simp only [Option.map_some] at hx
    have hn : G.length = M.length := by rw [← h2]; simp
    obtain ⟨a, c, e, hc, _⟩ := (Rv.of_own h1.own).opened
    simp only at e hc h1 hx
    subst e
    rw [hn] at h1 hx hc
    exact ⟨a, c, G, hx, hc, h1, h2⟩
end Go.Proofs.Ytadhghikanjkeaa
