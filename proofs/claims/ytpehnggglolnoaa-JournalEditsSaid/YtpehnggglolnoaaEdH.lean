/- The model's Make. -/
import Derived.Test.YtpehnggglolnoaaEdG
namespace Go.Proofs.Ytpehnggglolnoaa
open Go.RowKit

/-- What Make returns: items and texts, to be read. -/
structure MadeR (N : Nat) (W : World) (vi vt : Value) (xs : List ItV) (us : List Value) (ts : List (List Int)) : Prop where
  oi : W.ownsRow N 47 6 vi xs.length (itcells xs)
  ot : W.ownsRow N 22 1 vt us.length us
  rx : ∀ p ∈ xs, Rv W p.ed.ins p.x.e.s.length (p.x.e.s.map (Value.int .i64)) ∧ ∀ g, p.ed.ins.ownBlock = some g → N ≤ g ∧ g < W.heap.size
  ru : ∀ i u, us[i]? = some u → Rv W u (ts.getD i []).length ((ts.getD i []).map (Value.int .i64)) ∧ ∀ g, u.ownBlock = some g → N ≤ g ∧ g < W.heap.size
def MadePost (w : World) (N : Nat) (t0 : List Int) (en : Ending) (W : World) : Prop :=
  ∃ vi vt xs us ts l, en = .returned (.agg #[vi, vt]) ∧ Below w.heap.size w W ∧ MadeOk t0 (xs.map (·.x)) l ts ∧ us.length = ts.length ∧ xs.length ≤ 6 ∧ MadeR N W vi vt xs us ts
theorem MadeR.later {N : Nat} {W W1 : World} {vi vt : Value} {xs : List ItV} {us : List Value} {ts : List (List Int)} (h : MadeR N W vi vt xs us ts) (B : Below W.heap.size W W1) : MadeR N W1 vi vt xs us ts :=
  ⟨own_below h.oi B, own_below h.ot B, fun p hp => ⟨(h.rx p hp).1.below B, fun g hg => ⟨((h.rx p hp).2 g hg).1, Nat.lt_of_lt_of_le ((h.rx p hp).2 g hg).2 B.size⟩⟩, fun i u hu => ⟨(h.ru i u hu).1.below B, fun g hg => ⟨((h.ru i u hu).2 g hg).1, Nat.lt_of_lt_of_le ((h.ru i u hu).2 g hg).2 B.size⟩⟩⟩
theorem MkS.end {N mb dk : Nat} {W : World} {vi vt va vc : Value} {xs : List ItV} {us : List Value} {ts : List (List Int)} {l : List EdV} {cs : List Nat} (h : MkS N W mb dk vi vt va vc xs us ts l cs) : MadeR N W vi vt xs us ts :=
  ⟨h.oi, h.ot, fun p hp => ⟨(h.rx p hp).1.rv, fun g hg => ⟨(h.rx p hp).2 g hg, (h.rx p hp).1.low g hg⟩⟩, fun i u hu => ⟨(h.ru i u hu).1.rv, fun g hg => ⟨(h.ru i u hu).2 g hg, (h.ru i u hu).1.low g hg⟩⟩⟩
/-- A block of two cells. -/
theorem MadeOk.sm {t0 : List Int} {its : List It} {l : List EdV} {ts : List (List Int)} (h : MadeOk t0 its (l.map (·.e)) ts) (hi : its.length ≤ 6) : ∀ o ∈ l, SmE o.e := by
  intro o ho
  obtain ⟨i, hlt, rfl⟩ := List.mem_iff_getElem.1 ho
  have h1 : (l.map (·.e))[i]? = some l[i].e := by simp [hlt]
  obtain ⟨⟨a1, a2, a3⟩, f1, _⟩ := h.inT i _ h1
  have hl := h.len i
  have hle := h.le
  rw [List.length_map] at hle
  exact ⟨⟨a1, a2, by omega⟩, by omega⟩
theorem rv_offBlk {W W' : World} {R : Nat} {c0 c1 : Value} {T : TypeId} {z : Nat × Nat} {v : Value} {n : Nat} {l : List Int} (h : Rv W v n (l.map (Value.int .i64))) (hb : W.heap[R]? = some (.cells #[c0, c1] T z)) (h0 : ∀ x, c0 ≠ .int .i64 x) (h1 : ∀ x, c1 ≠ .int .i64 x) (hk : ∀ b, b ≠ R → W'.heap[b]? = W.heap[b]?) : Rv W' v n (l.map (Value.int .i64)) := by
  obtain ⟨ao, cap, rfl, e1, e3, e4, e5⟩ := h
  refine ⟨ao, cap, rfl, e1, e3, e4, ?_⟩
  rcases e5 with e5 | ⟨b, off, rfl, e5⟩
  · exact .inl e5
  · by_cases hR : b = R
    · subst hR
      cases l with
      | nil => exact .inl rfl
      | cons x l =>
        have hc := e5 0 (.int .i64 x) rfl
        simp only [World.cell?, hb, Nat.add_zero] at hc
        match off, hc with
        | 0, hc => simp at hc; exact absurd hc (h0 x)
        | 1, hc => simp at hc; exact absurd hc (h1 x)
        | off + 2, hc => simp at hc
    · refine .inr ⟨b, off, rfl, fun i u hi => ?_⟩
      have hc := e5 i u hi
      unfold World.cell? at hc ⊢
      rw [hk b hR]
      exact hc
theorem wpAnyH_three {P : Program} {ops : Array Oper} {Q : Exit → Act → World → Prop} {md : Region.Mode} {S : World → Prop} (i j k : Nat) {oi oj ok : Oper} {fuel : Nat} {listed : Array Bool} {a : Act} {w : World}
    (hi : ops[i]? = some oi) (hj : ops[j]? = some oj) (hk : ops[k]? = some ok) (hr : Region.ready md ops listed = [i, j, k]) (hwi : Region.wanted oi (yielded ops a.tmps) = true) (hwj : Region.wanted oj (yielded ops a.tmps) = true) (hwk : Region.wanted ok (yielded ops a.tmps) = true)
    (h1 : ∀ K' : Act → World → Prop, (∀ a w, S w → wpAnyH P md ops Q S fuel (listed.setIfInBounds i true) a w → K' a w) → Oper.wp P oi a w K' Q)
    (h2 : ∀ K' : Act → World → Prop, (∀ a w, S w → wpAnyH P md ops Q S fuel (listed.setIfInBounds j true) a w → K' a w) → Oper.wp P oj a w K' Q)
    (h3 : ∀ K' : Act → World → Prop, (∀ a w, S w → wpAnyH P md ops Q S fuel (listed.setIfInBounds k true) a w → K' a w) → Oper.wp P ok a w K' Q) : wpAnyH P md ops Q S (fuel + 1) listed a w :=
  wpAnyH_ready hr (by simp) (AllReadyH.cons hi (fun K' hK => by rw [if_pos hwi]; exact h1 K' (fun a w hS h => hK.out a w hS (fun _ => h)))
    (AllReadyH.cons hj (fun K' hK => by rw [if_pos hwj]; exact h2 K' (fun a w hS h => hK.out a w hS (fun _ => h)))
      (AllReadyH.cons hk (fun K' hK => by rw [if_pos hwk]; exact h3 K' (fun a w hS h => hK.out a w hS (fun _ => h))) AllReadyH.nil)))
theorem InT.mono {n m : Nat} {e : Ed} (h : InT n e) (hm : n ≤ m) : InT m e := ⟨h.1, h.2.1, by have := h.2.2; omega⟩
theorem BoxI.fz {w : World} {b : Nat} {x : ItV} (h : BoxI w b x) (j : Nat) : w.frozen? ⟨b, j, none⟩ = false := by
  unfold BoxI at h
  simp [World.frozen?, h]
/-- An item's edit is written. -/
theorem BoxI.edit {w : World} {b c n bs : Nat} {e : Ed} {ao : Option Addr} {k : Nat} (h : BoxI w b ⟨⟨c, n, bs, e⟩, ao, k⟩) (p : EdV) : BoxI (((w.setCell ⟨b, 3, none⟩ (.int .i64 p.e.a)).setCell ⟨b, 4, none⟩ (.int .i64 p.e.d)).setCell ⟨b, 5, none⟩ p.ins) b ⟨⟨c, n, bs, p.e⟩, p.ao, p.c⟩ :=
  heap_set3 (heap_set3 (heap_set3 h 3 (.int .i64 p.e.a)) 4 (.int .i64 p.e.d)) 5 p.ins
theorem results_made {fn : Func} {p : Tmp} (hf : fn.results = #[.cell p 35]) (tmps : Array Value) {w : World} {b : Nat} {c0 c1 : Value}
    (hp : tmps.getD p undef = .pointer (some ⟨b, 0, none⟩)) (h : w.heap[b]? = some (.cells #[c0, c1] 35 (0, 0))) : (results fn tmps).run Try.prog w = .ok (.agg #[c0, c1]) w := by
  have hp' : tmps[p]?.getD undef = .pointer (some ⟨b, 0, none⟩) := by simpa using hp
  have k0 : w.cell? ⟨b, 0, none⟩ = some c0 := by simp [World.cell?, h]
  have k1 : w.cell? ⟨b, 1, none⟩ = some c1 := by simp [World.cell?, h]
  simp [results, hf, hp', go_sem, k0, k1, Result.andThen]
/-- The result's block is written last. -/
theorem made_last {N R : Nat} {w W : World} {vi vt : Value} {xs : List ItV} {us : List Value} {ts : List (List Int)} {l : List Ed} {t0 : List Int} (h : MadeR N W vi vt xs us ts) (hb : W.heap[R]? = some (.cells #[.slice none 0 0, .slice none 0 0] 35 (0, 0))) (B : Below w.heap.size w W) (hR : w.heap.size ≤ R)
    (K : MadeOk t0 (xs.map (·.x)) l ts) (hut : us.length = ts.length) (h6 : xs.length ≤ 6) :
    ((W.setCell ⟨R, 0, none⟩ vi).setCell ⟨R, 1, none⟩ vt).heap[R]? = some (.cells #[vi, vt] 35 (0, 0)) ∧ MadePost w N t0 (.returned (.agg #[vi, vt])) ((W.setCell ⟨R, 0, none⟩ vi).setCell ⟨R, 1, none⟩ vt) := by
  have hk : ∀ b, b ≠ R → ((W.setCell ⟨R, 0, none⟩ vi).setCell ⟨R, 1, none⟩ vt).heap[b]? = W.heap[b]? := fun b hne => (Below.heap_setCell _ _ _ _ hne).trans (Below.heap_setCell _ _ _ _ hne)
  have hs : ((W.setCell ⟨R, 0, none⟩ vi).setCell ⟨R, 1, none⟩ vt).heap.size = W.heap.size := by rw [World.size_setCell, World.size_setCell]
  refine ⟨heap_set3 (heap_set3 hb 0 vi) 1 vt, vi, vt, xs, us, ts, l, rfl, (B.setCell (p := ⟨R, 0, none⟩) hR vi).setCell (p := ⟨R, 1, none⟩) hR vt, K, hut, h6, ?_⟩
  refine ⟨own_same h.oi (fun b hv => hk b (fun e => own_notBlk h.oi hb (by decide) (e ▸ hv))), own_same h.ot (fun b hv => hk b (fun e => own_notBlk h.ot hb (by decide) (e ▸ hv))), fun p hp => ⟨rv_offBlk (h.rx p hp).1 hb (fun x e => by cases e) (fun x e => by cases e) hk, by rw [hs]; exact (h.rx p hp).2⟩, fun i u hu => ⟨rv_offBlk (h.ru i u hu).1 hb (fun x e => by cases e) (fun x e => by cases e) hk, by rw [hs]; exact (h.ru i u hu).2⟩⟩
set_option maxRecDepth 20000 in
set_option maxHeartbeats 4000000 in
theorem make_any (v0 : Value) (t0 : List Int) (al : Option Addr) (cl : Nat) (m : List Int) (N : Nat) (w : World) (h0 : Rv w v0 t0.length (t0.map (Value.int .i64))) (h0N : ∀ g, v0.ownBlock = some g → N ≤ g ∧ g < w.heap.size) (hN : N ≤ w.heap.size)
    (hm : Rv w (.slice al m.length cl) m.length (m.map (Value.int .i64))) (hx : ∀ x ∈ m, -9223372036854775808 ≤ x ∧ x ≤ 9223372036854775807) (ht0 : t0.length ≤ 20) :
    Calls Try.prog 14 #[v0, .slice al m.length cl, .int .i64 6] w (MadePost w N t0) := by
  have HX := Bx.mk hx
  have hml := hm.len
  unfold maxLen at hml
  clear hx
  obtain ⟨a0, c0, rfl, _⟩ := h0.opened
  have B0 := (Below.refl w.heap.size w).alloc (Nat.le_refl _) (.cells #[.slice none 0 0, .slice none 0 0] 35)
  have R0 := World.alloc_heap_new w (.cells #[.slice none 0 0, .slice none 0 0] 35)
  have hm0 := hm.below B0
  have h00 := h0.below B0
  have hlt0 : w.heap.size < (w.alloc (.cells #[.slice none 0 0, .slice none 0 0] 35)).heap.size := by simp
  go_enter Try.func14, Try.ntmps14
  go_upto_region 1 with fail
  generalize w.alloc (.cells #[.slice none 0 0, .slice none 0 0] 35) = w0 at *
  obtain ⟨R, hR⟩ : ∃ R, w.heap.size = R := ⟨_, rfl⟩
  obtain ⟨G, hG⟩ : ∃ G, w0.heap.size = G := ⟨_, rfl⟩
  have B1 := (Below.refl w0.heap.size w0).alloc (Nat.le_refl _) (.cells #[.slice a0 t0.length c0] 22)
  have B2 := B1.alloc (by simp) (.cells #[.slice none 0 0, .slice (some ⟨w0.heap.size, 0, none⟩) 1 1] 35)
  have B3 := B2.alloc (by simp; omega) (.cells #[.slice none 0 0, .slice none 0 0, .slice none 0 0] 41)
  have M3 := World.alloc_heap_new (w0.alloc (.cells #[.slice a0 t0.length c0] 22)) (.cells #[.slice none 0 0, .slice (some ⟨w0.heap.size, 0, none⟩) 1 1] 35)
  have M3 := (Below.heap_alloc _ (.cells #[.slice none 0 0, .slice none 0 0, .slice none 0 0] 41) _ (by simp)).trans M3
  have D3 := World.alloc_heap_new ((w0.alloc (.cells #[.slice a0 t0.length c0] 22)).alloc (.cells #[.slice none 0 0, .slice (some ⟨w0.heap.size, 0, none⟩) 1 1] 35)) (.cells #[.slice none 0 0, .slice none 0 0, .slice none 0 0] 41)
  have T1 := own_lit w0 [.slice a0 t0.length c0] 22 1 1 rfl (by decide)
  have T3 := own_below (own_below T1 ((Below.refl _ _).alloc (Nat.le_refl _) (.cells #[.slice none 0 0, .slice (some ⟨w0.heap.size, 0, none⟩) 1 1] 35))) ((Below.refl _ _).alloc (Nat.le_refl _) (.cells #[.slice none 0 0, .slice none 0 0, .slice none 0 0] 41))
  simp only [World.size_alloc] at M3 D3
  change ((((w0.alloc (.cells #[.slice a0 t0.length c0] 22)).alloc (.cells #[.slice none 0 0, .slice (some ⟨w0.heap.size, 0, none⟩) 1 1] 35)).alloc (.cells #[.slice none 0 0, .slice none 0 0, .slice none 0 0] 41))).ownsRow _ _ _ _ _ _ at T3
  rw [hG] at M3 D3 T3
  go_wp2_with fail
  rw [hG] at B3
  generalize (((w0.alloc (.cells #[.slice a0 t0.length c0] 22)).alloc (.cells #[.slice none 0 0, .slice (some ⟨G, 0, none⟩) 1 1] 35)).alloc (.cells #[.slice none 0 0, .slice none 0 0, .slice none 0 0] 41)) = w3 at *
  have S3 : MkS N w3 (G + 1) (G + 1 + 1) (.slice none 0 0) (.slice (some ⟨G, 0, none⟩) 1 1) (.slice none 0 0) (.slice none 0 0) [] [.slice a0 t0.length c0] [t0] [] [] := by
    have hw := B0.size
    refine ⟨M3, World.ownsRow_nil _ _ _ _, own_base T3 (by omega), ⟨D3, World.ownsRow_nil _ _ _ _, World.ownsRow_nil _ _ _ _, World.ownsRow_nil _ _ _ _, by omega⟩, fun p hp => by (cases hp), fun i u hu => ?_, by omega⟩
    cases i with
    | succ i => simp at hu
    | zero =>
      simp only [List.getElem?_cons_zero, Option.some.injEq] at hu
      subst hu
      refine ⟨⟨?_, fun b hb hz => ?_, fun g hg => ?_⟩, fun g hg => (h0N g hg).1⟩
      · exact h00.below (by rw [hG]; exact B3)
      · have hb1 := (h0N b hb).2
        rcases hz with (hz | hz | hz) | (hz | hz | hz | hz)
        · omega
        · cases hz
        · have : G = b := Option.some.inj hz
          omega
        · omega
        · cases hz
        · cases hz
        · cases hz
      · have := (h0N g hg).2
        have := B3.size
        omega
  have K3 : MadeOk t0 (([] : List ItV).map (·.x)) (([] : List EdV).map (·.e)) [t0] := MadeOk.nil ht0
  have Z3 : ∀ b, mkZ (G + 1) (G + 1 + 1) (.slice none 0 0) (.slice (some ⟨G, 0, none⟩) 1 1) (.slice none 0 0) (.slice none 0 0) b → G ≤ b := fun b hz => by
    rcases hz with (hz | hz | hz) | (hz | hz | hz | hz)
    · omega
    · cases hz
    · have : G = b := Option.some.inj hz
      omega
    · omega
    · cases hz
    · cases hz
    · cases hz
  rw [hR] at R0 ⊢
  clear M3 D3 T3 T1 B1 B2
  go_loopw [9] (fun iv wr => ∃ (i : Nat) (vi vt va vc : Value) (xs : List ItV) (us : List Value) (ts : List (List Int)) (l : List EdV), iv = .int .i64 (i : Int) ∧ Bx (i = 2 * xs.length) ∧ xs.length ≤ 6 ∧ Bx (us.length = ts.length) ∧ MkS N wr (G + 1) (G + 1 + 1) vi vt va vc xs us ts l (xs.map (·.x.c)) ∧ Bx (MadeOk t0 (xs.map (·.x)) (l.map (·.e)) ts) ∧ Below G w0 wr ∧ Bx (∀ b, mkZ (G + 1) (G + 1 + 1) vi vt va vc b → G ≤ b)) (fun iv _ => 12 - (intOf iv).toNat)
  case atStart => exact ⟨0, _, _, _, _, [], [.slice a0 t0.length c0], [t0], [], rfl, ⟨rfl⟩, by simp, ⟨rfl⟩, S3, ⟨K3⟩, B3, ⟨Z3⟩⟩
  case round =>
    clear S3 K3 Z3 B3
    rename World => W
    obtain ⟨i, vi, vt, va, vc, xs, us, ts, l, rfl, hi, hx6, hut, S, KM, B, Z⟩ := hrel
    have hi12 : i ≤ 12 := by have := hi.out; omega
    have c0' := S.c0
    have c1' := S.c1
    obtain ⟨ki, ai, ci, rfl⟩ := own_shape S.oi
    obtain rfl : ki = xs.length := own_k S.oi
    obtain ⟨kt, at', ct, rfl⟩ := own_shape S.ot
    obtain rfl : kt = us.length := own_k S.ot
    have hRG : R < G := by omega
    have C : Below w.heap.size w W := B0.trans (B.mono (by omega))
    have rr : W.heap[R]? = some (.cells #[.slice none 0 0, .slice none 0 0] 35 (0, 0)) := (B.block R hRG).trans R0
    have r0 : W.cell? ⟨R, 0, none⟩ = some (.slice none 0 0) := by simp [World.cell?, rr]
    have r1 : W.cell? ⟨R, 1, none⟩ = some (.slice none 0 0) := by simp [World.cell?, rr]
    have rf : ∀ j, W.frozen? ⟨R, j, none⟩ = false := fun j => by simp [World.frozen?, rr]
    clear rr
    by_cases hlt : i + 1 < m.length
    · by_cases hl6 : xs.length < 6
      · obtain ⟨b2, off2, ⟨_, he⟩, hcx⟩ := rvCell (hm0.below (B.mono (by omega))) (i := i) (by omega)
        cases he
        have hx1 := Bx.mk (HX.out _ (List.getElem_mem (show i < m.length by omega)))
        obtain ⟨x1, hx1e⟩ : ∃ x, m[i] = x := ⟨_, rfl⟩
        rw [hx1e] at hcx hx1
        go_wp2_with fail
        refine (around_nat x1 1048576 (by omega) hx1.out.1 hx1.out.2 (by omega) _).mono ?_
        rintro e w1 ⟨n, hn, _, rfl, rfl⟩
        obtain ⟨q, hq⟩ : ∃ q : Nat, (n : Int) / 3 % 4 = (q : Int) := ⟨n / 3 % 4, rfl⟩
        have hq3 : q ≤ 3 := by omega
        clear hx1e hcx
        have d0 := S.ds.c0
        obtain ⟨ka, aa, ca, rfl⟩ := own_shape S.ds.oa
        obtain rfl : ka = l.length := own_k S.ds.oa
        have hll : l.length = xs.length := by have := KM.out.le; simpa using this
        have hl6' : l.length ≤ 6 := by omega
        have HLL := Bx.mk hll
        clear hll
        go_upto_region 8 with fail
        go_cut [12] from 43 to 52 (fun bv wx => (∃ b : Nat, b ≤ l.length ∧ bv = .int .i64 (b : Int)) ∧ W = wx)
        case first =>
          by_cases hql : q ≤ l.length
          · obtain ⟨b, hb⟩ : ∃ b : Nat, (l.length : Int) - (q : Int) = (b : Int) := ⟨l.length - q, by omega⟩
            have hb0 : 0 ≤ (b : Int) := by omega
            go_wp2_with fail
            all_goals
              go_meet
              first
              | exact ⟨⟨b, by omega, rfl⟩, rfl⟩
              | exact ⟨⟨0, by omega, rfl⟩, rfl⟩
          · have hlq : (l.length : Int) - (q : Int) < 0 := by omega
            go_wp2_with fail
            all_goals
              go_meet
              exact ⟨⟨0, by omega, rfl⟩, rfl⟩
        case rest =>
        obtain ⟨⟨b, hbl, rfl⟩, rfl⟩ := hcut
        obtain ⟨c, hc⟩ : ∃ c : Nat, (n : Int) % 3 = (c : Int) := ⟨n % 3, rfl⟩
        have hc2 : c ≤ 2 := by omega
        clear hq hq3 d0
        go_wp2_with fail
        refine (next_any W S.ds c (by omega) (by simp; omega)).mono ?_
        rintro e w1 ⟨rfl, rfl⟩
        obtain ⟨nx, hnx⟩ : ∃ nx, cntN (xs.map (·.x.c)) c = nx := ⟨_, rfl⟩
        rw [hnx]
        have HNX := Bx.mk hnx
        clear hnx
        go_upto_region 10 with fail
        obtain ⟨H, hH⟩ : ∃ H, w1.heap.size = H := ⟨_, rfl⟩
        have BA := (Below.refl w1.heap.size w1).alloc (Nat.le_refl _) (.cells #[.int .i64 (c : Int), .int .i64 (nx : Int), .int .i64 (b : Int), .int .i64 0, .int .i64 0, .slice none 0 0] 47)
        have X2 : BoxI (w1.alloc (.cells #[.int .i64 (c : Int), .int .i64 (nx : Int), .int .i64 (b : Int), .int .i64 0, .int .i64 0, .slice none 0 0] 47)) w1.heap.size ⟨⟨c, nx, b, ⟨0, 0, []⟩⟩, none, 0⟩ := World.alloc_heap_new w1 _
        rw [hH] at X2
        have hm1 := hm0.below (B.mono (by omega))
        have hub : b < us.length := by
          have h1 := KM.out.lt
          rw [List.length_map] at h1
          have := hut.out
          have := HLL.out
          omega
        obtain ⟨ub, hub2⟩ : ∃ u, us[b]? = some u := ⟨us[b], List.getElem?_eq_getElem hub⟩
        obtain ⟨tb, htb⟩ : ∃ t, ts.getD b [] = t := ⟨_, rfl⟩
        have hru := (S.ru b ub hub2).1.rv
        rw [htb] at hru
        obtain ⟨ab, cb, rfl, _, _⟩ := hru.opened
        obtain ⟨gt, hgt, hgc⟩ : ∃ gt, at' = some ⟨gt, 0, none⟩ ∧ w1.cell? ⟨gt, b, none⟩ = some (.slice ab tb.length cb) := by
          obtain ⟨b3, off3, e3, hc3⟩ := (Rv.of_own S.ot).rd.cell hub2
          rcases S.ot.2 with ⟨e, _⟩ | ⟨g, cap, cur, e, _⟩
          · injection e with e1
            rw [e1] at e3
            cases e3
          · injection e with e1
            rw [e1] at e3 ⊢
            cases e3
            exact ⟨_, rfl, by simpa using hc3⟩
        subst hgt
        obtain ⟨b5, off5, ⟨_, he5⟩, hc5⟩ := rvCell hm1 (i := i + 1) hlt
        cases he5
        have hx2 := Bx.mk (HX.out _ (List.getElem_mem hlt))
        obtain ⟨x2, hx2e⟩ : ∃ x, m[i + 1] = x := ⟨_, rfl⟩
        rw [hx2e] at hc5 hx2
        have hwi : IntKind.i64.wrap ((i : Int) + 1) = (i : Int) + 1 := by rw [IntKind.wrap_i64]; omega
        have hwn : IntKind.i64.wrap ((n : Int) / 12) = (n : Int) / 12 := by rw [IntKind.wrap_i64]; omega
        have hi0 : (0 : Int) ≤ (i : Int) + 1 := by omega
        have hi1 : (i : Int) + 1 < (m.length : Int) := by omega
        have hit : ((i : Int) + 1).toNat = i + 1 := by omega
        have htbl : tb.length ≤ 38 := by
          have h1 := KM.out.len b
          rw [htb] at h1
          have := HLL.out
          omega
        have hub3 : (b : Int) < (us.length : Int) := by omega
        have BD := (Below.refl w1.heap.size w1).trans (BA.drew)
        have X3 := X2.later (Below.refl (w1.alloc (.cells #[.int .i64 (c : Int), .int .i64 (nx : Int), .int .i64 (b : Int), .int .i64 0, .int .i64 0, .slice none 0 0] 47)).heap.size _).drew
        have s0 : (w1.alloc (.cells #[.int .i64 (c : Int), .int .i64 (nx : Int), .int .i64 (b : Int), .int .i64 0, .int .i64 0, .slice none 0 0] 47)).drew.cell? ⟨G + 1, 1, none⟩ = some (.slice (some ⟨gt, 0, none⟩) us.length ct) ∧ (w1.alloc (.cells #[.int .i64 (c : Int), .int .i64 (nx : Int), .int .i64 (b : Int), .int .i64 0, .int .i64 0, .slice none 0 0] 47)).drew.cell? ⟨gt, b, none⟩ = some (.slice ab tb.length cb) ∧ (w1.alloc (.cells #[.int .i64 (c : Int), .int .i64 (nx : Int), .int .i64 (b : Int), .int .i64 0, .int .i64 0, .slice none 0 0] 47)).drew.cell? ⟨b2, off2 + (i + 1), none⟩ = some (.int .i64 x2) := ⟨(BD.cell (World.block_lt_of_cell? _ _ c1')).trans c1', (BD.cell (World.block_lt_of_cell? _ _ hgc)).trans hgc, (BD.cell (World.block_lt_of_cell? _ _ hc5)).trans hc5⟩
        have HTB := Bx.mk htb
        have HUB := Bx.mk hub2
        have hlb : b2 < H := by have h1 := World.block_lt_of_cell? _ _ hc5; rw [← hH]; exact h1
        clear hx2e c1' hgc hc5 BA X2 htb hub2 r0 r1 rf c0' hru
        refine wp_region_held_drew (S := fun W => W.cell? ⟨G + 1, 1, none⟩ = some (.slice (some ⟨gt, 0, none⟩) us.length ct) ∧ W.cell? ⟨gt, b, none⟩ = some (.slice ab tb.length cb) ∧ W.cell? ⟨b2, off2 + (i + 1), none⟩ = some (.int .i64 x2)) (by kernel_rfl) s0 (fun _ => ?_)
        refine wpAnyH_do 0 59 rfl rfl (by kernel_rfl) (by kernel_rfl) (by kernel_rfl) (fun _ _ _ _ _ h => h) (by kernel_rfl) (fun W hS => by (obtain ⟨s1, s2, s3⟩ := hS); go_simp; try with_reducible rfl) s0 ?_
        simp only [List.setIfInBounds_toArray, List.set_cons_succ, List.set_cons_zero]
        refine wpAnyH_do 1 60 rfl rfl (by kernel_rfl) (by kernel_rfl) (by kernel_rfl) (fun _ _ _ _ _ h => h) (by kernel_rfl) (fun W hS => by (obtain ⟨s1, s2, s3⟩ := hS); go_simp; try with_reducible rfl) s0 ?_
        simp only [List.setIfInBounds_toArray, List.set_cons_succ, List.set_cons_zero]
        refine wpAnyH_do 2 61 rfl rfl (by kernel_rfl) (by kernel_rfl) (by kernel_rfl) (fun _ _ _ _ _ h => h) (by kernel_rfl) (fun W hS => by (obtain ⟨s1, s2, s3⟩ := hS); go_simp; try with_reducible rfl) s0 ?_
        simp only [List.setIfInBounds_toArray, List.set_cons_succ, List.set_cons_zero]
        refine wpAnyH_do 3 62 rfl rfl (by kernel_rfl) (by kernel_rfl) (by kernel_rfl) (fun _ _ _ _ _ h => h) (by kernel_rfl) (fun W hS => by (obtain ⟨s1, s2, s3⟩ := hS); go_simp; try with_reducible rfl) s0 ?_
        simp only [List.setIfInBounds_toArray, List.set_cons_succ, List.set_cons_zero]
        refine wpAnyH_do 4 63 rfl rfl (by kernel_rfl) (by kernel_rfl) (by kernel_rfl) (fun _ _ _ _ _ h => h) (by kernel_rfl) (fun W hS => by (obtain ⟨s1, s2, s3⟩ := hS); go_simp; try with_reducible rfl) s0 ?_
        simp only [List.setIfInBounds_toArray, List.set_cons_succ, List.set_cons_zero]
        refine wpAnyH_do 5 64 rfl rfl (by kernel_rfl) (by kernel_rfl) (by kernel_rfl) (fun _ _ _ _ _ h => h) (by kernel_rfl) (fun W hS => by (obtain ⟨s1, s2, s3⟩ := hS); go_simp; try with_reducible rfl) s0 ?_
        simp only [List.setIfInBounds_toArray, List.set_cons_succ, List.set_cons_zero]
        refine wpAnyH_do 6 65 rfl rfl (by kernel_rfl) (by kernel_rfl) (by kernel_rfl) (fun _ _ _ _ _ h => h) (by kernel_rfl) (fun W hS => by (obtain ⟨s1, s2, s3⟩ := hS); go_simp; try with_reducible rfl) s0 ?_
        simp only [List.setIfInBounds_toArray, List.set_cons_succ, List.set_cons_zero]
        refine wpAnyH_do 7 66 rfl rfl (by kernel_rfl) (by kernel_rfl) (by kernel_rfl) (fun _ _ _ _ _ h => h) (by kernel_rfl) (fun W hS => by (obtain ⟨s1, s2, s3⟩ := hS); go_simp; try with_reducible rfl) s0 ?_
        simp only [List.setIfInBounds_toArray, List.set_cons_succ, List.set_cons_zero]
        refine wpAnyH_do 8 67 rfl rfl (by kernel_rfl) (by kernel_rfl) (by kernel_rfl) (fun _ _ _ _ _ h => h) (by kernel_rfl) (fun W hS => by (obtain ⟨s1, s2, s3⟩ := hS); go_simp; try with_reducible rfl) s0 ?_
        simp only [List.setIfInBounds_toArray, List.set_cons_succ, List.set_cons_zero]
        refine wpAnyH_do 9 68 rfl rfl (by kernel_rfl) (by kernel_rfl) (by kernel_rfl) (fun _ _ _ _ _ h => h) (by kernel_rfl) (fun W hS => by (obtain ⟨s1, s2, s3⟩ := hS); go_simp; try with_reducible rfl) s0 ?_
        simp only [List.setIfInBounds_toArray, List.set_cons_succ, List.set_cons_zero]
        refine wpAnyH_do 10 69 rfl rfl (by kernel_rfl) (by kernel_rfl) (by kernel_rfl) (fun _ _ _ _ _ h => h) (by kernel_rfl) (fun W hS => by (obtain ⟨s1, s2, s3⟩ := hS); go_simp; try with_reducible rfl) s0 ?_
        simp only [List.setIfInBounds_toArray, List.set_cons_succ, List.set_cons_zero]
        refine wpAnyH_do 11 70 rfl rfl (by kernel_rfl) (by kernel_rfl) (by kernel_rfl) (fun _ _ _ _ _ h => h) (by kernel_rfl) (fun W hS => by (obtain ⟨s1, s2, s3⟩ := hS); go_simp; try with_reducible rfl) s0 ?_
        simp only [List.setIfInBounds_toArray, List.set_cons_succ, List.set_cons_zero]
        refine wpAnyH_do 12 71 rfl rfl (by kernel_rfl) (by kernel_rfl) (by kernel_rfl) (fun _ _ _ _ _ h => h) (by kernel_rfl) (fun W hS => by (obtain ⟨s1, s2, s3⟩ := hS); go_simp; try with_reducible rfl) s0 ?_
        simp only [List.setIfInBounds_toArray, List.set_cons_succ, List.set_cons_zero]
        generalize (w1.alloc (.cells #[.int .i64 (c : Int), .int .i64 (nx : Int), .int .i64 (b : Int), .int .i64 0, .int .i64 0, .slice none 0 0] 47)).drew = w2 at *
        refine wpAnyH_one 13 rfl (by kernel_rfl) (by kernel_rfl) (fun K hK => ?_)
        go_simp
        refine (edit27_any tb.length (by omega) ((n : Int) / 12) x2 (by omega) hx2.out _).mono ?_
        rintro e w3 ⟨⟨⟨pa, pd, ps⟩, po, pc⟩, rfl, P1, P2, PO, B3⟩
        change w3.ownsRow _ _ _ (.slice po ps.length pc) _ _ at PO
        have s3 : w3.cell? ⟨G + 1, 1, none⟩ = some (.slice (some ⟨gt, 0, none⟩) us.length ct) ∧ w3.cell? ⟨gt, b, none⟩ = some (.slice ab tb.length cb) ∧ w3.cell? ⟨b2, off2 + (i + 1), none⟩ = some (.int .i64 x2) := ⟨(B3.cell (World.block_lt_of_cell? _ _ s0.1)).trans s0.1, (B3.cell (World.block_lt_of_cell? _ _ s0.2.1)).trans s0.2.1, (B3.cell (World.block_lt_of_cell? _ _ s0.2.2)).trans s0.2.2⟩
        have X4 := X3.later B3
        have C3 := bel BD B3
        have X5 := X4.edit ⟨⟨pa, pd, ps⟩, po, pc⟩
        change BoxI (((w3.setCell ⟨H, 3, none⟩ (.int .i64 pa)).setCell ⟨H, 4, none⟩ (.int .i64 pd)).setCell ⟨H, 5, none⟩ (.slice po ps.length pc)) H ⟨⟨c, nx, b, ⟨pa, pd, ps⟩⟩, po, pc⟩ at X5
        have hl1 : G + 1 < H := by rw [← hH]; exact S.lt
        have hlt2 : gt < H := by rw [← hH]; exact (S.ot.lt gt rfl).2
        have D3 := ((C3.setCell (p := ⟨H, 3, none⟩) (by rw [hH]; exact Nat.le_refl _) (.int .i64 pa)).setCell (p := ⟨H, 4, none⟩) (by rw [hH]; exact Nat.le_refl _) (.int .i64 pd)).setCell (p := ⟨H, 5, none⟩) (by rw [hH]; exact Nat.le_refl _) (.slice po ps.length pc)
        have hHb : H < w2.heap.size := X3.lt
        have PO := own_set (own_set (own_set PO hHb 3 (.int .i64 pa)) hHb 4 (.int .i64 pd)) hHb 5 (.slice po ps.length pc)
        have far : ∀ k j, k ≠ H → (((w3.setCell ⟨H, 3, none⟩ (.int .i64 pa)).setCell ⟨H, 4, none⟩ (.int .i64 pd)).setCell ⟨H, 5, none⟩ (.slice po ps.length pc)).cell? ⟨k, j, none⟩ = w3.cell? ⟨k, j, none⟩ := fun k j hk => by
          have hf : (((w3.setCell ⟨H, 3, none⟩ (.int .i64 pa)).setCell ⟨H, 4, none⟩ (.int .i64 pd)).setCell ⟨H, 5, none⟩ (.slice po ps.length pc)).heap[k]? = w3.heap[k]? := (Below.heap_setCell _ _ _ _ hk).trans ((Below.heap_setCell _ _ _ _ hk).trans (Below.heap_setCell _ _ _ _ hk))
          unfold World.cell?
          rw [hf]
        have s4 : (((w3.setCell ⟨H, 3, none⟩ (.int .i64 pa)).setCell ⟨H, 4, none⟩ (.int .i64 pd)).setCell ⟨H, 5, none⟩ (.slice po ps.length pc)).cell? ⟨G + 1, 1, none⟩ = some (.slice (some ⟨gt, 0, none⟩) us.length ct) ∧ (((w3.setCell ⟨H, 3, none⟩ (.int .i64 pa)).setCell ⟨H, 4, none⟩ (.int .i64 pd)).setCell ⟨H, 5, none⟩ (.slice po ps.length pc)).cell? ⟨gt, b, none⟩ = some (.slice ab tb.length cb) ∧ (((w3.setCell ⟨H, 3, none⟩ (.int .i64 pa)).setCell ⟨H, 4, none⟩ (.int .i64 pd)).setCell ⟨H, 5, none⟩ (.slice po ps.length pc)).cell? ⟨b2, off2 + (i + 1), none⟩ = some (.int .i64 x2) := ⟨(far _ _ (by omega)).trans s3.1, (far _ _ (by omega)).trans s3.2.1, (far _ _ (by omega)).trans s3.2.2⟩
        have y3 : w3.cell? ⟨H, 3, none⟩ = some (.int .i64 0) := X4.at 3
        have y4 : w3.cell? ⟨H, 4, none⟩ = some (.int .i64 0) := X4.at 4
        have y5 : w3.cell? ⟨H, 5, none⟩ = some (.slice none 0 0) := X4.at 5
        have yf := X4.fz
        clear far
        refine hK _ _ s3 ?_
        clear hK
        simp only [EdV.val, EdV.ins, Ed.val]
        refine wpAnyH_do 14 73 rfl rfl (by kernel_rfl) (by kernel_rfl) (by kernel_rfl) (fun _ _ _ _ _ h => h) (by kernel_rfl) (fun W hS => by (obtain ⟨s1, s2, s3⟩ := hS); go_simp; try with_reducible rfl) s3 ?_
        simp only [List.setIfInBounds_toArray, List.set_cons_succ, List.set_cons_zero]
        refine wpAnyH_one 15 rfl (by kernel_rfl) (by kernel_rfl) (fun K hK => ?_)
        go_simp
        refine hK _ _ s4 ?_
        clear hK
        refine wpAnyH_done (by kernel_rfl) ?_ _
        generalize (((w3.setCell ⟨H, 3, none⟩ (.int .i64 pa)).setCell ⟨H, 4, none⟩ (.int .i64 pd)).setCell ⟨H, 5, none⟩ (.slice po ps.length pc)) = w4 at *
        have S4 := S.later D3
        have FZ := S.frz PO BD.size
        have RZ := Rv.of_own PO
        have Z4 := Z.out
        have B4 : Below G w0 w4 := B.trans (D3.mono (by have := S.lt; omega))
        clear s3 s4 y3 y4 y5 yf X4 X3 C3 B3 BD hwi hwn hi0 hi1 hit hHb s0 PO hm1 hx1 hx2
        have z0 : w4.cell? ⟨H, 0, none⟩ = some (.int .i64 (c : Int)) := X5.at 0
        have z1 : w4.cell? ⟨H, 1, none⟩ = some (.int .i64 (nx : Int)) := X5.at 1
        have z2 : w4.cell? ⟨H, 2, none⟩ = some (.int .i64 (b : Int)) := X5.at 2
        have z3 : w4.cell? ⟨H, 3, none⟩ = some (.int .i64 pa) := X5.at 3
        have z4 : w4.cell? ⟨H, 4, none⟩ = some (.int .i64 pd) := X5.at 4
        have z5 : w4.cell? ⟨H, 5, none⟩ = some (.slice po ps.length pc) := X5.at 5
        have hsm := KM.out.sm (by rw [List.length_map]; omega)
        have hmv : ∀ k, b + k ≤ l.length → InT 1000 (((l.drop b).take k).foldl EdV.mv ⟨⟨pa, pd, ps⟩, po, pc⟩).e := fun k hk => by
          have h1 := KM.out.moved (b := b) (e := ⟨pa, pd, ps⟩) (by rw [HTB.out]; exact P1) k (by rw [List.length_map]; have := HLL.out; omega)
          have h2 := KM.out.len (b + k)
          rw [(foldl_mv _ _).1, List.map_take, List.map_drop]
          exact h1.mono (by omega)
        have HP1 := Bx.mk P1
        have HP2 := Bx.mk P2
        have HMVV := Bx.mk hmv
        have HSM := Bx.mk hsm
        clear P1 P2 hmv hsm
        go_wp2_with fail
        refine (take_any w4 S4.ds ⟨⟨c, nx, b, ⟨pa, pd, ps⟩⟩, po, pc⟩ HNX.out.symm hbl (by show c ≤ 1000; omega) (by omega) (by simp; omega) HP2.out.2 (by have := HP2.out.1; show ps.length ≤ 1000; have h3 : ps.length ≤ 3 := this; omega) RZ HSM.out HMVV.out).mono ?_
        rintro e w5 ⟨va5, vc5, vo, rfl, E5, O5, F5, T5⟩
        obtain ⟨M5, ZZ5⟩ := S4.take E5 T5
        obtain ⟨ko, ao5, co5, rfl⟩ := own_shape O5
        obtain rfl : ko = 1 := own_k O5
        have hdz : ∀ k, dkF (G + 1 + 1) (.slice aa l.length ca) vc (.slice none 0 0) k → k < H := fun k hk => by rw [← hH]; exact (S.ds.fl k hk).2
        have X6 := X5.kept (T5.block H X5.lt (fun hk => by have := hdz H hk; omega))
        have FZ5 : Frz w5 (mkZ (G + 1) (G + 1 + 1) (.slice ai xs.length ci) (.slice (some ⟨gt, 0, none⟩) us.length ct) va5 vc5) (.slice po ps.length pc) ps.length (ps.map (Value.int .i64)) ∧ ∀ g, (Value.slice po ps.length pc).ownBlock = some g → N ≤ g := ⟨FZ.1.step ZZ5, FZ.2⟩
        have B5 := B4.trans (ZZ5.toBelow (by have := S4.lt; omega) Z4)
        have Z5 := ZZ5.ge (by have := S4.lt; omega) Z4
        have HZ5 := Bx.mk Z5
        have HF5 := Bx.mk F5
        clear z0 z1 z2 z3 z4 z5 S4 E5 T5 X5 FZ RZ B4 hdz ZZ5 Z4 D3 Z5 F5
        have z0 : w5.cell? ⟨H, 0, none⟩ = some (.int .i64 (c : Int)) := X6.at 0
        have z1 : w5.cell? ⟨H, 1, none⟩ = some (.int .i64 (nx : Int)) := X6.at 1
        have z2 : w5.cell? ⟨H, 2, none⟩ = some (.int .i64 (b : Int)) := X6.at 2
        have z3 : w5.cell? ⟨H, 3, none⟩ = some (.int .i64 pa) := X6.at 3
        have z4 : w5.cell? ⟨H, 4, none⟩ = some (.int .i64 pd) := X6.at 4
        have z5 : w5.cell? ⟨H, 5, none⟩ = some (.slice po ps.length pc) := X6.at 5
        have m0 := M5.c0
        have BA := (Below.refl w5.heap.size w5).alloc (Nat.le_refl _) (.cells #[.int .i64 (c : Int), .int .i64 (nx : Int), .int .i64 (b : Int), .int .i64 pa, .int .i64 pd, .slice po ps.length pc] 47)
        have MA := M5.later BA
        go_wp2_with (at_builtin; refine wpList_app2 _ rfl _ _ rfl Try.elIt N (.slice ai xs.length ci) xs.length (itcells xs) rfl MA.oi (.slice (some ⟨w5.heap.size, 0, none⟩) 1 1) 1 [.int .i64 (c : Int), .int .i64 (nx : Int), .int .i64 (b : Int), .int .i64 pa, .int .i64 pd, .slice po ps.length pc] rfl (Rv.lit w5 [.int .i64 (c : Int), .int .i64 (nx : Int), .int .i64 (b : Int), .int .i64 pa, .int .i64 pd, .slice po ps.length pc] 47 1 (by decide)) rfl (fun u hu => itcells_one u ⟨⟨c, nx, b, ⟨pa, pd, ps⟩⟩, po, pc⟩ hu) (by omega) (by have := M5.mlo; have := M5.lt; simp; omega) ?_; intro v6 w6 O6 g6 sn6; refine later ?_)
        obtain ⟨k6, a6, c6, rfl⟩ := own_shape O6
        obtain ⟨M7, ZZ7⟩ := M5.items (p := ⟨⟨c, nx, b, ⟨pa, pd, ps⟩⟩, po, pc⟩) (DStep.grownA _ g6 sn6) (by rw [itcells_snoc, List.length_append]; exact O6) FZ5
        have hd6 := (g6.block (G + 1) (by have := M5.lt; simp; omega) (fun e => own_notBlk MA.oi MA.blk (by decide) e.symm)).trans MA.blk
        have f6 : w6.frozen? ⟨G + 1, 0, none⟩ = false := by simp [World.frozen?, hd6]
        have e6 : w6.cell? ⟨G + 1, 0, none⟩ = some (.slice ai xs.length ci) := by simp [World.cell?, hd6]
        have O7 := own_step (own_step O5 (DStep.grownA (v := .slice ai xs.length ci) (v' := .slice a6 k6 c6) _ g6 sn6) (own_types O5 M5.oi (by decide))) ((DStep.refl (fun b => b = G + 1) w6).set (i := 0) (.inl rfl) (.slice a6 k6 c6)) (fun g hg hx => own_notBlk (own_step O5 (DStep.grownA (v := .slice ai xs.length ci) (v' := .slice a6 k6 c6) _ g6 sn6) (own_types O5 M5.oi (by decide))) hd6 (by decide) (hx ▸ hg))
        have B7 := B5.trans (ZZ7.toBelow (by have := M5.lt; omega) HZ5.out)
        have Z7 := Bx.mk (ZZ7.ge (by have := M5.lt; omega) HZ5.out)
        clear z0 z1 z2 z3 z4 z5 m0 BA MA X6 hd6 O6 g6 sn6 O5 FZ5 ZZ7 B5 M5
        refine Later.in ?_
        go_wp2_with fail
        generalize w6.setCell ⟨G + 1, 0, none⟩ (.slice a6 k6 c6) = w7 at *
        have hL1 : us.length = l.length + 1 := by
          have h1 := KM.out.lt
          rw [List.length_map] at h1
          have := hut.out
          have := HLL.out
          omega
        obtain ⟨L, hL⟩ : ∃ L, l.length = L := ⟨_, rfl⟩
        rw [hL] at hL1
        have hxl : xs.length = L := by have := HLL.out; omega
        obtain ⟨uL, huL⟩ : ∃ u, us[L]? = some u := ⟨us[L], List.getElem?_eq_getElem (by omega)⟩
        obtain ⟨tL, htL⟩ : ∃ t, ts.getD L [] = t := ⟨_, rfl⟩
        have hin := KM.out.takeIn (x := ⟨c, nx, b, ⟨pa, pd, ps⟩⟩) (by rw [List.length_map]; show b ≤ _; omega) (by rw [HTB.out]; exact HP1.out)
        rw [List.length_map, hxl, htL] at hin
        have hye := takeV_e l ⟨⟨c, nx, b, ⟨pa, pd, ps⟩⟩, po, pc⟩
        have hyi := takeV_ins l ⟨⟨c, nx, b, ⟨pa, pd, ps⟩⟩, po, pc⟩
        change (takeV l ⟨⟨c, nx, b, ⟨pa, pd, ps⟩⟩, po, pc⟩).ins = .slice po ps.length pc at hyi
        have hys : (takeE (l.map (·.e)) ⟨c, nx, b, ⟨pa, pd, ps⟩⟩).s = ps := foldl_s _ _
        obtain ⟨A, hA⟩ : ∃ A : Nat, (takeE (l.map (·.e)) ⟨c, nx, b, ⟨pa, pd, ps⟩⟩).a = (A : Int) := ⟨_, (Int.toNat_of_nonneg hin.1).symm⟩
        obtain ⟨D, hD⟩ : ∃ D : Nat, (takeE (l.map (·.e)) ⟨c, nx, b, ⟨pa, pd, ps⟩⟩).d = (D : Int) := ⟨_, (Int.toNat_of_nonneg hin.2.1).symm⟩
        have hAD : A + D ≤ tL.length := by have := hin.2.2; rw [hA, hD] at this; omega
        have hyc : (takeV l ⟨⟨c, nx, b, ⟨pa, pd, ps⟩⟩, po, pc⟩).cells = [.int .i64 (A : Int), .int .i64 (D : Int), .slice po ps.length pc] := by
          unfold EdV.cells
          rw [hyi, hye]
          show [Value.int .i64 (takeE (l.map (·.e)) ⟨c, nx, b, ⟨pa, pd, ps⟩⟩).a, Value.int .i64 (takeE (l.map (·.e)) ⟨c, nx, b, ⟨pa, pd, ps⟩⟩).d, _] = _
          rw [hA, hD]
        have hsp : spl tL (takeE (l.map (·.e)) ⟨c, nx, b, ⟨pa, pd, ps⟩⟩) = (tL.take A ++ (ps ++ tL.drop (A + D))) := by
          unfold spl
          rw [hA, hD, hys]
          rfl
        have hLk : tL.length ≤ 38 := by
          have := KM.out.len L
          rw [htL] at this
          omega
        have hpl : ps.length ≤ 3 := HP2.out.1
        have HSPL := Bx.mk hsp
        have HL := Bx.mk hL
        have HL1 := Bx.mk hL1
        have HTL := Bx.mk htL
        have HUL := Bx.mk huL
        have HYC := Bx.mk hyc
        have HXL := Bx.mk hxl
        have hyeB := Bx.mk hye
        clear hin hye hyi hys hA hD hsp hL htL huL hyc hxl hL1
        go_loopw [16] (fun kv wr => (kv = .int .i64 0 ∧ w7 = wr) ∨ (kv = .int .i64 1 ∧ ∃ vt' u, MkS N wr (G + 1) (G + 1 + 1) (.slice a6 k6 c6) vt' va5 vc5 (xs ++ [⟨⟨c, nx, b, ⟨pa, pd, ps⟩⟩, po, pc⟩]) (us ++ [u]) (ts ++ [(tL.take A ++ (ps ++ tL.drop (A + D)))]) (l ++ [takeV l ⟨⟨c, nx, b, ⟨pa, pd, ps⟩⟩, po, pc⟩]) (xs.map (·.x.c) ++ [c]) ∧ Below G w0 wr ∧ Bx (∀ b, mkZ (G + 1) (G + 1 + 1) (.slice a6 k6 c6) vt' va5 vc5 b → G ≤ b))) (fun kv _ => 1 - (intOf kv).toNat)
        case atStart => exact .inl ⟨rfl, rfl⟩
        case round =>
          rcases hrel with ⟨rfl, rfl⟩ | ⟨rfl, vt', u, M10, B10, Z10⟩
          · obtain ⟨go, hgo, ho0, ho1, ho2⟩ : ∃ go, ao5 = some ⟨go, 0, none⟩ ∧ w7.cell? ⟨go, 0, none⟩ = some (.int .i64 (A : Int)) ∧ w7.cell? ⟨go, 1, none⟩ = some (.int .i64 (D : Int)) ∧ w7.cell? ⟨go, 2, none⟩ = some (.slice po ps.length pc) := by
              obtain ⟨go, cq, eq⟩ := ownsRow_succ O7
              injection eq with e1 e2 e3
              subst e1 e3
              rw [HYC.out] at O7
              exact ⟨go, rfl, O7.cellAt (j := 0) (by omega), O7.cellAt (j := 1) (by omega), O7.cellAt (j := 2) (by omega)⟩
            subst hgo
            have hruL := (M7.ru L uL HUL.out).1.rv
            rw [HTL.out] at hruL
            obtain ⟨aL, cL, rfl, _, _⟩ := hruL.opened
            have hgL : w7.cell? ⟨gt, L, none⟩ = some (.slice aL tL.length cL) := by
              obtain ⟨b3, off3, e3, hc3⟩ := (Rv.of_own M7.ot).rd.cell HUL.out
              rcases M7.ot.2 with ⟨e, _⟩ | ⟨g, cap, cur, e, _⟩
              · injection e with e1
                cases e1
              · injection e with e1
                cases e1
                cases e3
                simpa using hc3
            have hins := (M7.rx ⟨⟨c, nx, b, ⟨pa, pd, ps⟩⟩, po, pc⟩ (by simp)).1.rv
            change Rv w7 (.slice po ps.length pc) ps.length (ps.map (Value.int .i64)) at hins
            have hm1 := M7.c1
            have BD := (Below.refl w7.heap.size w7).drew
            have s7 : w7.drew.cell? ⟨go, 0, none⟩ = some (.int .i64 (A : Int)) ∧ w7.drew.cell? ⟨go, 1, none⟩ = some (.int .i64 (D : Int)) ∧ w7.drew.cell? ⟨go, 2, none⟩ = some (.slice po ps.length pc) := ⟨ho0, ho1, ho2⟩
            have hHSP : ∀ W : World, Below w7.heap.size w7 W → Calls Try.prog 51 #[.slice aL tL.length cL, .agg #[.int .i64 (A : Int), .int .i64 (D : Int), .slice po ps.length pc]] W (RetMade W 3 ((tL.take A ++ (ps ++ tL.drop (A + D))).map (Value.int .i64))) := fun W hW => rsplice_any (.slice aL tL.length cL) tL A D ps (.slice po ps.length pc) W (hruL.below hW) (hins.below hW) (by omega) (by omega) hAD
            have HSP := Bx.mk hHSP
            have hHAF : ∀ (w8 : World) (v8 : Value), w8.ownsRow w7.drew.heap.size 3 1 v8 ((tL.take A ++ (ps ++ tL.drop (A + D))).map (Value.int .i64)).length ((tL.take A ++ (ps ++ tL.drop (A + D))).map (Value.int .i64)) → Below w7.drew.heap.size w7.drew w8 →
                Below w7.heap.size w7 w8 ∧ (w8.cell? ⟨go, 0, none⟩ = some (.int .i64 (A : Int)) ∧ w8.cell? ⟨go, 1, none⟩ = some (.int .i64 (D : Int)) ∧ w8.cell? ⟨go, 2, none⟩ = some (.slice po ps.length pc)) ∧ w8.cell? ⟨G + 1, 1, none⟩ = some (.slice (some ⟨gt, 0, none⟩) us.length ct) ∧ (∀ o, (w8.alloc o).cell? ⟨go, 0, none⟩ = some (.int .i64 (A : Int)) ∧ (w8.alloc o).cell? ⟨go, 1, none⟩ = some (.int .i64 (D : Int)) ∧ (w8.alloc o).cell? ⟨go, 2, none⟩ = some (.slice po ps.length pc)) ∧ (∀ o, (w8.alloc o).cell? ⟨G + 1, 1, none⟩ = some (.slice (some ⟨gt, 0, none⟩) us.length ct)) ∧ ∃ k8 a8 c8, v8 = .slice a8 k8 c8 ∧ Bx (w8.ownsRow w7.heap.size 3 1 (.slice a8 k8 c8) (tL.take A ++ (ps ++ tL.drop (A + D))).length ((tL.take A ++ (ps ++ tL.drop (A + D))).map (Value.int .i64))) := fun w8 v8 hO hB => by
              have hB' := BD.trans (hB.mono (Nat.le_refl _))
              have ha : ∀ o, Below w7.heap.size w7 (w8.alloc o) := fun o => hB'.alloc hB'.size o
              have hc : ∀ W, Below w7.heap.size w7 W → (W.cell? ⟨go, 0, none⟩ = some (.int .i64 (A : Int)) ∧ W.cell? ⟨go, 1, none⟩ = some (.int .i64 (D : Int)) ∧ W.cell? ⟨go, 2, none⟩ = some (.slice po ps.length pc)) ∧ W.cell? ⟨G + 1, 1, none⟩ = some (.slice (some ⟨gt, 0, none⟩) us.length ct) := fun W hW => ⟨⟨(hW.cell (World.block_lt_of_cell? _ _ ho0)).trans ho0, (hW.cell (World.block_lt_of_cell? _ _ ho1)).trans ho1, (hW.cell (World.block_lt_of_cell? _ _ ho2)).trans ho2⟩, (hW.cell (World.block_lt_of_cell? _ _ hm1)).trans hm1⟩
              obtain ⟨k8, a8, c8, rfl⟩ := own_shape hO
              rw [List.length_map] at hO
              exact ⟨hB', (hc _ hB').1, (hc _ hB').2, fun o => (hc _ (ha o)).1, fun o => (hc _ (ha o)).2, k8, a8, c8, rfl, ⟨hO⟩⟩
            have HAF := Bx.mk hHAF
            have hlu : (us.length : Int) - 1 = (L : Int) := by have := HL1.out; omega
            have hL6 : L ≤ 6 := by have := HL.out; omega
            have hwu : IntKind.i64.wrap (L : Int) = (L : Int) := by rw [IntKind.wrap_i64]; omega
            have hL0 : (0 : Int) ≤ (L : Int) := by omega
            have hLu : (L : Int) < (us.length : Int) := by omega
            clear hHSP hHAF ho0 ho1 ho2
            go_wp2_with fail
            refine wp_region_held_drew (S := fun W => W.cell? ⟨go, 0, none⟩ = some (.int .i64 (A : Int)) ∧ W.cell? ⟨go, 1, none⟩ = some (.int .i64 (D : Int)) ∧ W.cell? ⟨go, 2, none⟩ = some (.slice po ps.length pc)) (by kernel_rfl) s7 (fun _ => ?_)
            refine wpAnyH_do 0 92 rfl rfl (by kernel_rfl) (by kernel_rfl) (by kernel_rfl) (fun _ _ _ _ _ h => h) (by kernel_rfl) (fun W hS => by (obtain ⟨s1, s2, s3⟩ := hS); go_simp; try with_reducible rfl) s7 ?_
            simp only [List.setIfInBounds_toArray, List.set_cons_succ, List.set_cons_zero]
            refine wpAnyH_do 2 94 rfl rfl (by kernel_rfl) (by kernel_rfl) (by kernel_rfl) (fun _ _ _ _ _ h => h) (by kernel_rfl) (fun W hS => by (obtain ⟨s1, s2, s3⟩ := hS); go_simp; try with_reducible rfl) s7 ?_
            simp only [List.setIfInBounds_toArray, List.set_cons_succ, List.set_cons_zero]
            refine wpAnyH_do 4 96 rfl rfl (by kernel_rfl) (by kernel_rfl) (by kernel_rfl) (fun _ _ _ _ _ h => h) (by kernel_rfl) (fun W hS => by (obtain ⟨s1, s2, s3⟩ := hS); go_simp; try with_reducible rfl) s7 ?_
            simp only [List.setIfInBounds_toArray, List.set_cons_succ, List.set_cons_zero]
            refine wpAnyH_do 10 102 rfl rfl (by kernel_rfl) (by kernel_rfl) (by kernel_rfl) (fun _ _ _ _ _ h => h) (by kernel_rfl) (fun W hS => by (obtain ⟨s1, s2, s3⟩ := hS); go_simp; try with_reducible rfl) s7 ?_
            simp only [List.setIfInBounds_toArray, List.set_cons_succ, List.set_cons_zero]
            refine wpAnyH_do 11 103 rfl rfl (by kernel_rfl) (by kernel_rfl) (by kernel_rfl) (fun _ _ _ _ _ h => h) (by kernel_rfl) (fun W hS => by (obtain ⟨s1, s2, s3⟩ := hS); go_simp; try with_reducible rfl) s7 ?_
            simp only [List.setIfInBounds_toArray, List.set_cons_succ, List.set_cons_zero]
            refine wpAnyH_do 12 104 rfl rfl (by kernel_rfl) (by kernel_rfl) (by kernel_rfl) (fun _ _ _ _ _ h => h) (by kernel_rfl) (fun W hS => by (obtain ⟨s1, s2, s3⟩ := hS); go_simp; try with_reducible rfl) s7 ?_
            simp only [List.setIfInBounds_toArray, List.set_cons_succ, List.set_cons_zero]
            refine wpAnyH_do 13 105 rfl rfl (by kernel_rfl) (by kernel_rfl) (by kernel_rfl) (fun _ _ _ _ _ h => h) (by kernel_rfl) (fun W hS => by (obtain ⟨s1, s2, s3⟩ := hS); go_simp; try with_reducible rfl) s7 ?_
            simp only [List.setIfInBounds_toArray, List.set_cons_succ, List.set_cons_zero]
            have hm1 : w7.drew.cell? ⟨G + 1, 1, none⟩ = _ := hm1
            have hgL : w7.drew.cell? ⟨gt, L, none⟩ = _ := hgL
            --#G
            refine wpAnyH_three 1 3 5 rfl rfl rfl (by kernel_rfl) (by kernel_rfl) (by kernel_rfl) (by kernel_rfl) (fun K hK => ?_) (fun K hK => ?_) (fun K hK => ?_)
            · go_simp
              refine hK _ _ s7 ?_
              clear hK
              refine wpAnyH_two 3 5 rfl rfl (by kernel_rfl) (by kernel_rfl) (by kernel_rfl) (fun K hK => ?_) (fun K hK => ?_)
              · go_simp
                refine hK _ _ s7 ?_
                clear hK
                refine wpAnyH_one 5 rfl (by kernel_rfl) (by kernel_rfl) (fun K hK => ?_)
                go_simp
                refine hK _ _ s7 ?_
                clear hK
                refine wpAnyH_do 6 98 rfl rfl (by kernel_rfl) (by kernel_rfl) (by kernel_rfl) (fun _ _ _ _ _ h => h) (by kernel_rfl) (fun W hS => by (obtain ⟨s1, s2, s3⟩ := hS); go_simp; try with_reducible rfl) s7 ?_
                simp only [List.setIfInBounds_toArray, List.set_cons_succ, List.set_cons_zero]
                refine wpAnyH_do 7 99 rfl rfl (by kernel_rfl) (by kernel_rfl) (by kernel_rfl) (fun _ _ _ _ _ h => h) (by kernel_rfl) (fun W hS => by (obtain ⟨s1, s2, s3⟩ := hS); go_simp; try with_reducible rfl) s7 ?_
                simp only [List.setIfInBounds_toArray, List.set_cons_succ, List.set_cons_zero]
                refine wpAnyH_do 8 100 rfl rfl (by kernel_rfl) (by kernel_rfl) (by kernel_rfl) (fun _ _ _ _ _ h => h) (by kernel_rfl) (fun W hS => by (obtain ⟨s1, s2, s3⟩ := hS); go_simp; try with_reducible rfl) s7 ?_
                simp only [List.setIfInBounds_toArray, List.set_cons_succ, List.set_cons_zero]
                refine wpAnyH_one 9 rfl (by kernel_rfl) (by kernel_rfl) (fun K hK => ?_)
                go_simp
                refine hK _ _ s7 ?_
                clear hK
                refine wpAnyH_one 14 rfl (by kernel_rfl) (by kernel_rfl) (fun K hK => ?_)
                go_simp
                refine (HSP.out _ BD).mono ?_
                rintro e w8 ⟨v8, rfl, MK8⟩
                obtain ⟨B8, s8, m8, s9, m9, k8, a8, c8, rfl, HL8⟩ := HAF.out w8 v8 MK8.1 MK8.2
                replace s9 := s9 (.cells #[.slice a8 k8 c8] 22)
                replace m9 := m9 (.cells #[.slice a8 k8 c8] 22)
                refine hK _ _ s8 ?_
                clear hK
                refine wpAnyH_one 15 rfl (by kernel_rfl) (by kernel_rfl) (fun K hK => ?_)
                go_simp
                refine hK _ _ s9 ?_
                clear hK
                have BA8 := (Below.refl w8.heap.size w8).alloc (Nat.le_refl _) (.cells #[.slice a8 k8 c8] 22)
                have M8 := M7.later B8
                have M9 := M8.later BA8
                refine wpAnyH_one 16 rfl (by kernel_rfl) (by kernel_rfl) (fun K hK => ?_)
                refine opApp _ _ rfl Try.elVI N (.slice (some ⟨gt, 0, none⟩) us.length ct) us.length us rfl M9.ot (.slice (some ⟨w8.heap.size, 0, none⟩) 1 1) 1 [.slice a8 k8 c8] rfl (Rv.one _ _ _) rfl (ones1 _ rfl) (by omega) (by have := M8.mlo; have := M8.lt; simp; omega) ?_
                intro v10 w10 O10 g10 sn10
                obtain ⟨k10, a10, c10, rfl⟩ := own_shape O10
                have FT := M7.frz HL8.out (Nat.le_refl _)
                have e8k : k8 = (tL.take A ++ (ps ++ tL.drop (A + D))).length := own_k HL8.out
                subst e8k
                obtain ⟨M11, ZZ11⟩ := M8.texts (u := .slice a8 (tL.take A ++ (ps ++ tL.drop (A + D))).length c8) (t := (tL.take A ++ (ps ++ tL.drop (A + D)))) hut.out (DStep.grownA _ g10 sn10) (by rw [List.length_append]; exact O10) FT
                have hgo : ∀ g, (Value.slice (some ⟨gt, 0, none⟩) us.length ct).ownBlock = some g → g ≠ go := fun g hg e => own_types O7 M7.ot (by decide) go rfl (e ▸ hg)
                have hgl : go < w8.heap.size := World.block_lt_of_cell? _ _ s8.1
                have hg10 : w10.heap[go]? = w8.heap[go]? := (g10.block go (by simp; omega) (fun e => hgo go e.symm rfl)).trans (Below.heap_alloc _ _ _ hgl)
                have hgm : go ≠ G + 1 := fun e => own_notBlk O7 M7.blk (by decide) (by rw [← e]; rfl)
                have s10 : w10.cell? ⟨go, 0, none⟩ = some (.int .i64 (A : Int)) ∧ w10.cell? ⟨go, 1, none⟩ = some (.int .i64 (D : Int)) ∧ w10.cell? ⟨go, 2, none⟩ = some (.slice po ps.length pc) := by
                  unfold World.cell? at s8 ⊢
                  rw [hg10]
                  exact s8
                have hd10 := (g10.block (G + 1) (by have := M8.lt; simp; omega) (fun e => own_notBlk M9.ot M9.blk (by decide) e.symm)).trans M9.blk
                have f10 : w10.frozen? ⟨G + 1, 1, none⟩ = false := by simp [World.frozen?, hd10]
                have e10 : w10.cell? ⟨G + 1, 1, none⟩ = some (.slice (some ⟨gt, 0, none⟩) us.length ct) := by simp [World.cell?, hd10]
                have s11 : (w10.setCell ⟨G + 1, 1, none⟩ (.slice a10 k10 c10)).cell? ⟨go, 0, none⟩ = some (.int .i64 (A : Int)) ∧ (w10.setCell ⟨G + 1, 1, none⟩ (.slice a10 k10 c10)).cell? ⟨go, 1, none⟩ = some (.int .i64 (D : Int)) ∧ (w10.setCell ⟨G + 1, 1, none⟩ (.slice a10 k10 c10)).cell? ⟨go, 2, none⟩ = some (.slice po ps.length pc) := by
                  have hf : (w10.setCell ⟨G + 1, 1, none⟩ (.slice a10 k10 c10)).heap[go]? = w10.heap[go]? := Below.heap_setCell _ _ _ _ hgm
                  unfold World.cell? at s10 ⊢
                  rw [hf]
                  exact s10
                have B11 := (B7.trans (B8.mono (by have := M7.lt; omega))).trans (ZZ11.toBelow (by have := M8.lt; omega) Z7.out)
                have Z11 := Bx.mk (ZZ11.ge (by have := M8.lt; omega) Z7.out)
                refine hK _ _ s10 ?_
                clear hK
                simp only [Act.put, List.setIfInBounds_toArray]
                refine wpAnyH_do 17 109 rfl rfl (by kernel_rfl) (by kernel_rfl) (by kernel_rfl) (fun _ _ _ _ _ h => h) (by kernel_rfl) (fun W hS => by (obtain ⟨s1, s2, s3⟩ := hS); go_simp; try with_reducible rfl) s10 ?_
                simp only [List.setIfInBounds_toArray, List.set_cons_succ, List.set_cons_zero]
                refine wpAnyH_one 18 rfl (by kernel_rfl) (by kernel_rfl) (fun K hK => ?_)
                go_simp
                refine hK _ _ s11 ?_
                clear hK
                refine wpAnyH_done (by kernel_rfl) ?_ _
                clear s8 m8 s9 m9 s10 s11 f10 e10 hd10
                go_wp2_with fail
                go_roundw
                case rel => exact .inr ⟨rfl, _, _, M11, B11, Z11⟩
                case measure => simp [intOf]
              · go_simp
                refine hK _ _ s7 ?_
                clear hK
                refine wpAnyH_do 6 98 rfl rfl (by kernel_rfl) (by kernel_rfl) (by kernel_rfl) (fun _ _ _ _ _ h => h) (by kernel_rfl) (fun W hS => by (obtain ⟨s1, s2, s3⟩ := hS); go_simp; try with_reducible rfl) s7 ?_
                simp only [List.setIfInBounds_toArray, List.set_cons_succ, List.set_cons_zero]
                refine wpAnyH_do 7 99 rfl rfl (by kernel_rfl) (by kernel_rfl) (by kernel_rfl) (fun _ _ _ _ _ h => h) (by kernel_rfl) (fun W hS => by (obtain ⟨s1, s2, s3⟩ := hS); go_simp; try with_reducible rfl) s7 ?_
                simp only [List.setIfInBounds_toArray, List.set_cons_succ, List.set_cons_zero]
                refine wpAnyH_one 3 rfl (by kernel_rfl) (by kernel_rfl) (fun K hK => ?_)
                go_simp
                refine hK _ _ s7 ?_
                clear hK
                refine wpAnyH_do 8 100 rfl rfl (by kernel_rfl) (by kernel_rfl) (by kernel_rfl) (fun _ _ _ _ _ h => h) (by kernel_rfl) (fun W hS => by (obtain ⟨s1, s2, s3⟩ := hS); go_simp; try with_reducible rfl) s7 ?_
                simp only [List.setIfInBounds_toArray, List.set_cons_succ, List.set_cons_zero]
                refine wpAnyH_one 9 rfl (by kernel_rfl) (by kernel_rfl) (fun K hK => ?_)
                go_simp
                refine hK _ _ s7 ?_
                clear hK
                refine wpAnyH_one 14 rfl (by kernel_rfl) (by kernel_rfl) (fun K hK => ?_)
                go_simp
                refine (HSP.out _ BD).mono ?_
                rintro e w8 ⟨v8, rfl, MK8⟩
                obtain ⟨B8, s8, m8, s9, m9, k8, a8, c8, rfl, HL8⟩ := HAF.out w8 v8 MK8.1 MK8.2
                replace s9 := s9 (.cells #[.slice a8 k8 c8] 22)
                replace m9 := m9 (.cells #[.slice a8 k8 c8] 22)
                refine hK _ _ s8 ?_
                clear hK
                refine wpAnyH_one 15 rfl (by kernel_rfl) (by kernel_rfl) (fun K hK => ?_)
                go_simp
                refine hK _ _ s9 ?_
                clear hK
                have BA8 := (Below.refl w8.heap.size w8).alloc (Nat.le_refl _) (.cells #[.slice a8 k8 c8] 22)
                have M8 := M7.later B8
                have M9 := M8.later BA8
                refine wpAnyH_one 16 rfl (by kernel_rfl) (by kernel_rfl) (fun K hK => ?_)
                refine opApp _ _ rfl Try.elVI N (.slice (some ⟨gt, 0, none⟩) us.length ct) us.length us rfl M9.ot (.slice (some ⟨w8.heap.size, 0, none⟩) 1 1) 1 [.slice a8 k8 c8] rfl (Rv.one _ _ _) rfl (ones1 _ rfl) (by omega) (by have := M8.mlo; have := M8.lt; simp; omega) ?_
                intro v10 w10 O10 g10 sn10
                obtain ⟨k10, a10, c10, rfl⟩ := own_shape O10
                have FT := M7.frz HL8.out (Nat.le_refl _)
                have e8k : k8 = (tL.take A ++ (ps ++ tL.drop (A + D))).length := own_k HL8.out
                subst e8k
                obtain ⟨M11, ZZ11⟩ := M8.texts (u := .slice a8 (tL.take A ++ (ps ++ tL.drop (A + D))).length c8) (t := (tL.take A ++ (ps ++ tL.drop (A + D)))) hut.out (DStep.grownA _ g10 sn10) (by rw [List.length_append]; exact O10) FT
                have hgo : ∀ g, (Value.slice (some ⟨gt, 0, none⟩) us.length ct).ownBlock = some g → g ≠ go := fun g hg e => own_types O7 M7.ot (by decide) go rfl (e ▸ hg)
                have hgl : go < w8.heap.size := World.block_lt_of_cell? _ _ s8.1
                have hg10 : w10.heap[go]? = w8.heap[go]? := (g10.block go (by simp; omega) (fun e => hgo go e.symm rfl)).trans (Below.heap_alloc _ _ _ hgl)
                have hgm : go ≠ G + 1 := fun e => own_notBlk O7 M7.blk (by decide) (by rw [← e]; rfl)
                have s10 : w10.cell? ⟨go, 0, none⟩ = some (.int .i64 (A : Int)) ∧ w10.cell? ⟨go, 1, none⟩ = some (.int .i64 (D : Int)) ∧ w10.cell? ⟨go, 2, none⟩ = some (.slice po ps.length pc) := by
                  unfold World.cell? at s8 ⊢
                  rw [hg10]
                  exact s8
                have hd10 := (g10.block (G + 1) (by have := M8.lt; simp; omega) (fun e => own_notBlk M9.ot M9.blk (by decide) e.symm)).trans M9.blk
                have f10 : w10.frozen? ⟨G + 1, 1, none⟩ = false := by simp [World.frozen?, hd10]
                have e10 : w10.cell? ⟨G + 1, 1, none⟩ = some (.slice (some ⟨gt, 0, none⟩) us.length ct) := by simp [World.cell?, hd10]
                have s11 : (w10.setCell ⟨G + 1, 1, none⟩ (.slice a10 k10 c10)).cell? ⟨go, 0, none⟩ = some (.int .i64 (A : Int)) ∧ (w10.setCell ⟨G + 1, 1, none⟩ (.slice a10 k10 c10)).cell? ⟨go, 1, none⟩ = some (.int .i64 (D : Int)) ∧ (w10.setCell ⟨G + 1, 1, none⟩ (.slice a10 k10 c10)).cell? ⟨go, 2, none⟩ = some (.slice po ps.length pc) := by
                  have hf : (w10.setCell ⟨G + 1, 1, none⟩ (.slice a10 k10 c10)).heap[go]? = w10.heap[go]? := Below.heap_setCell _ _ _ _ hgm
                  unfold World.cell? at s10 ⊢
                  rw [hf]
                  exact s10
                have B11 := (B7.trans (B8.mono (by have := M7.lt; omega))).trans (ZZ11.toBelow (by have := M8.lt; omega) Z7.out)
                have Z11 := Bx.mk (ZZ11.ge (by have := M8.lt; omega) Z7.out)
                refine hK _ _ s10 ?_
                clear hK
                simp only [Act.put, List.setIfInBounds_toArray]
                refine wpAnyH_do 17 109 rfl rfl (by kernel_rfl) (by kernel_rfl) (by kernel_rfl) (fun _ _ _ _ _ h => h) (by kernel_rfl) (fun W hS => by (obtain ⟨s1, s2, s3⟩ := hS); go_simp; try with_reducible rfl) s10 ?_
                simp only [List.setIfInBounds_toArray, List.set_cons_succ, List.set_cons_zero]
                refine wpAnyH_one 18 rfl (by kernel_rfl) (by kernel_rfl) (fun K hK => ?_)
                go_simp
                refine hK _ _ s11 ?_
                clear hK
                refine wpAnyH_done (by kernel_rfl) ?_ _
                clear s8 m8 s9 m9 s10 s11 f10 e10 hd10
                go_wp2_with fail
                go_roundw
                case rel => exact .inr ⟨rfl, _, _, M11, B11, Z11⟩
                case measure => simp [intOf]
            · go_simp
              refine hK _ _ s7 ?_
              clear hK
              refine wpAnyH_two 1 5 rfl rfl (by kernel_rfl) (by kernel_rfl) (by kernel_rfl) (fun K hK => ?_) (fun K hK => ?_)
              · go_simp
                refine hK _ _ s7 ?_
                clear hK
                refine wpAnyH_one 5 rfl (by kernel_rfl) (by kernel_rfl) (fun K hK => ?_)
                go_simp
                refine hK _ _ s7 ?_
                clear hK
                refine wpAnyH_do 6 98 rfl rfl (by kernel_rfl) (by kernel_rfl) (by kernel_rfl) (fun _ _ _ _ _ h => h) (by kernel_rfl) (fun W hS => by (obtain ⟨s1, s2, s3⟩ := hS); go_simp; try with_reducible rfl) s7 ?_
                simp only [List.setIfInBounds_toArray, List.set_cons_succ, List.set_cons_zero]
                refine wpAnyH_do 7 99 rfl rfl (by kernel_rfl) (by kernel_rfl) (by kernel_rfl) (fun _ _ _ _ _ h => h) (by kernel_rfl) (fun W hS => by (obtain ⟨s1, s2, s3⟩ := hS); go_simp; try with_reducible rfl) s7 ?_
                simp only [List.setIfInBounds_toArray, List.set_cons_succ, List.set_cons_zero]
                refine wpAnyH_do 8 100 rfl rfl (by kernel_rfl) (by kernel_rfl) (by kernel_rfl) (fun _ _ _ _ _ h => h) (by kernel_rfl) (fun W hS => by (obtain ⟨s1, s2, s3⟩ := hS); go_simp; try with_reducible rfl) s7 ?_
                simp only [List.setIfInBounds_toArray, List.set_cons_succ, List.set_cons_zero]
                refine wpAnyH_one 9 rfl (by kernel_rfl) (by kernel_rfl) (fun K hK => ?_)
                go_simp
                refine hK _ _ s7 ?_
                clear hK
                refine wpAnyH_one 14 rfl (by kernel_rfl) (by kernel_rfl) (fun K hK => ?_)
                go_simp
                refine (HSP.out _ BD).mono ?_
                rintro e w8 ⟨v8, rfl, MK8⟩
                obtain ⟨B8, s8, m8, s9, m9, k8, a8, c8, rfl, HL8⟩ := HAF.out w8 v8 MK8.1 MK8.2
                replace s9 := s9 (.cells #[.slice a8 k8 c8] 22)
                replace m9 := m9 (.cells #[.slice a8 k8 c8] 22)
                refine hK _ _ s8 ?_
                clear hK
                refine wpAnyH_one 15 rfl (by kernel_rfl) (by kernel_rfl) (fun K hK => ?_)
                go_simp
                refine hK _ _ s9 ?_
                clear hK
                have BA8 := (Below.refl w8.heap.size w8).alloc (Nat.le_refl _) (.cells #[.slice a8 k8 c8] 22)
                have M8 := M7.later B8
                have M9 := M8.later BA8
                refine wpAnyH_one 16 rfl (by kernel_rfl) (by kernel_rfl) (fun K hK => ?_)
                refine opApp _ _ rfl Try.elVI N (.slice (some ⟨gt, 0, none⟩) us.length ct) us.length us rfl M9.ot (.slice (some ⟨w8.heap.size, 0, none⟩) 1 1) 1 [.slice a8 k8 c8] rfl (Rv.one _ _ _) rfl (ones1 _ rfl) (by omega) (by have := M8.mlo; have := M8.lt; simp; omega) ?_
                intro v10 w10 O10 g10 sn10
                obtain ⟨k10, a10, c10, rfl⟩ := own_shape O10
                have FT := M7.frz HL8.out (Nat.le_refl _)
                have e8k : k8 = (tL.take A ++ (ps ++ tL.drop (A + D))).length := own_k HL8.out
                subst e8k
                obtain ⟨M11, ZZ11⟩ := M8.texts (u := .slice a8 (tL.take A ++ (ps ++ tL.drop (A + D))).length c8) (t := (tL.take A ++ (ps ++ tL.drop (A + D)))) hut.out (DStep.grownA _ g10 sn10) (by rw [List.length_append]; exact O10) FT
                have hgo : ∀ g, (Value.slice (some ⟨gt, 0, none⟩) us.length ct).ownBlock = some g → g ≠ go := fun g hg e => own_types O7 M7.ot (by decide) go rfl (e ▸ hg)
                have hgl : go < w8.heap.size := World.block_lt_of_cell? _ _ s8.1
                have hg10 : w10.heap[go]? = w8.heap[go]? := (g10.block go (by simp; omega) (fun e => hgo go e.symm rfl)).trans (Below.heap_alloc _ _ _ hgl)
                have hgm : go ≠ G + 1 := fun e => own_notBlk O7 M7.blk (by decide) (by rw [← e]; rfl)
                have s10 : w10.cell? ⟨go, 0, none⟩ = some (.int .i64 (A : Int)) ∧ w10.cell? ⟨go, 1, none⟩ = some (.int .i64 (D : Int)) ∧ w10.cell? ⟨go, 2, none⟩ = some (.slice po ps.length pc) := by
                  unfold World.cell? at s8 ⊢
                  rw [hg10]
                  exact s8
                have hd10 := (g10.block (G + 1) (by have := M8.lt; simp; omega) (fun e => own_notBlk M9.ot M9.blk (by decide) e.symm)).trans M9.blk
                have f10 : w10.frozen? ⟨G + 1, 1, none⟩ = false := by simp [World.frozen?, hd10]
                have e10 : w10.cell? ⟨G + 1, 1, none⟩ = some (.slice (some ⟨gt, 0, none⟩) us.length ct) := by simp [World.cell?, hd10]
                have s11 : (w10.setCell ⟨G + 1, 1, none⟩ (.slice a10 k10 c10)).cell? ⟨go, 0, none⟩ = some (.int .i64 (A : Int)) ∧ (w10.setCell ⟨G + 1, 1, none⟩ (.slice a10 k10 c10)).cell? ⟨go, 1, none⟩ = some (.int .i64 (D : Int)) ∧ (w10.setCell ⟨G + 1, 1, none⟩ (.slice a10 k10 c10)).cell? ⟨go, 2, none⟩ = some (.slice po ps.length pc) := by
                  have hf : (w10.setCell ⟨G + 1, 1, none⟩ (.slice a10 k10 c10)).heap[go]? = w10.heap[go]? := Below.heap_setCell _ _ _ _ hgm
                  unfold World.cell? at s10 ⊢
                  rw [hf]
                  exact s10
                have B11 := (B7.trans (B8.mono (by have := M7.lt; omega))).trans (ZZ11.toBelow (by have := M8.lt; omega) Z7.out)
                have Z11 := Bx.mk (ZZ11.ge (by have := M8.lt; omega) Z7.out)
                refine hK _ _ s10 ?_
                clear hK
                simp only [Act.put, List.setIfInBounds_toArray]
                refine wpAnyH_do 17 109 rfl rfl (by kernel_rfl) (by kernel_rfl) (by kernel_rfl) (fun _ _ _ _ _ h => h) (by kernel_rfl) (fun W hS => by (obtain ⟨s1, s2, s3⟩ := hS); go_simp; try with_reducible rfl) s10 ?_
                simp only [List.setIfInBounds_toArray, List.set_cons_succ, List.set_cons_zero]
                refine wpAnyH_one 18 rfl (by kernel_rfl) (by kernel_rfl) (fun K hK => ?_)
                go_simp
                refine hK _ _ s11 ?_
                clear hK
                refine wpAnyH_done (by kernel_rfl) ?_ _
                clear s8 m8 s9 m9 s10 s11 f10 e10 hd10
                go_wp2_with fail
                go_roundw
                case rel => exact .inr ⟨rfl, _, _, M11, B11, Z11⟩
                case measure => simp [intOf]
              · go_simp
                refine hK _ _ s7 ?_
                clear hK
                refine wpAnyH_do 6 98 rfl rfl (by kernel_rfl) (by kernel_rfl) (by kernel_rfl) (fun _ _ _ _ _ h => h) (by kernel_rfl) (fun W hS => by (obtain ⟨s1, s2, s3⟩ := hS); go_simp; try with_reducible rfl) s7 ?_
                simp only [List.setIfInBounds_toArray, List.set_cons_succ, List.set_cons_zero]
                refine wpAnyH_do 7 99 rfl rfl (by kernel_rfl) (by kernel_rfl) (by kernel_rfl) (fun _ _ _ _ _ h => h) (by kernel_rfl) (fun W hS => by (obtain ⟨s1, s2, s3⟩ := hS); go_simp; try with_reducible rfl) s7 ?_
                simp only [List.setIfInBounds_toArray, List.set_cons_succ, List.set_cons_zero]
                refine wpAnyH_do 8 100 rfl rfl (by kernel_rfl) (by kernel_rfl) (by kernel_rfl) (fun _ _ _ _ _ h => h) (by kernel_rfl) (fun W hS => by (obtain ⟨s1, s2, s3⟩ := hS); go_simp; try with_reducible rfl) s7 ?_
                simp only [List.setIfInBounds_toArray, List.set_cons_succ, List.set_cons_zero]
                refine wpAnyH_two 1 9 rfl rfl (by kernel_rfl) (by kernel_rfl) (by kernel_rfl) (fun K hK => ?_) (fun K hK => ?_)
                · go_simp
                  refine hK _ _ s7 ?_
                  clear hK
                  refine wpAnyH_one 9 rfl (by kernel_rfl) (by kernel_rfl) (fun K hK => ?_)
                  go_simp
                  refine hK _ _ s7 ?_
                  clear hK
                  refine wpAnyH_one 14 rfl (by kernel_rfl) (by kernel_rfl) (fun K hK => ?_)
                  go_simp
                  refine (HSP.out _ BD).mono ?_
                  rintro e w8 ⟨v8, rfl, MK8⟩
                  obtain ⟨B8, s8, m8, s9, m9, k8, a8, c8, rfl, HL8⟩ := HAF.out w8 v8 MK8.1 MK8.2
                  replace s9 := s9 (.cells #[.slice a8 k8 c8] 22)
                  replace m9 := m9 (.cells #[.slice a8 k8 c8] 22)
                  refine hK _ _ s8 ?_
                  clear hK
                  refine wpAnyH_one 15 rfl (by kernel_rfl) (by kernel_rfl) (fun K hK => ?_)
                  go_simp
                  refine hK _ _ s9 ?_
                  clear hK
                  have BA8 := (Below.refl w8.heap.size w8).alloc (Nat.le_refl _) (.cells #[.slice a8 k8 c8] 22)
                  have M8 := M7.later B8
                  have M9 := M8.later BA8
                  refine wpAnyH_one 16 rfl (by kernel_rfl) (by kernel_rfl) (fun K hK => ?_)
                  refine opApp _ _ rfl Try.elVI N (.slice (some ⟨gt, 0, none⟩) us.length ct) us.length us rfl M9.ot (.slice (some ⟨w8.heap.size, 0, none⟩) 1 1) 1 [.slice a8 k8 c8] rfl (Rv.one _ _ _) rfl (ones1 _ rfl) (by omega) (by have := M8.mlo; have := M8.lt; simp; omega) ?_
                  intro v10 w10 O10 g10 sn10
                  obtain ⟨k10, a10, c10, rfl⟩ := own_shape O10
                  have FT := M7.frz HL8.out (Nat.le_refl _)
                  have e8k : k8 = (tL.take A ++ (ps ++ tL.drop (A + D))).length := own_k HL8.out
                  subst e8k
                  obtain ⟨M11, ZZ11⟩ := M8.texts (u := .slice a8 (tL.take A ++ (ps ++ tL.drop (A + D))).length c8) (t := (tL.take A ++ (ps ++ tL.drop (A + D)))) hut.out (DStep.grownA _ g10 sn10) (by rw [List.length_append]; exact O10) FT
                  have hgo : ∀ g, (Value.slice (some ⟨gt, 0, none⟩) us.length ct).ownBlock = some g → g ≠ go := fun g hg e => own_types O7 M7.ot (by decide) go rfl (e ▸ hg)
                  have hgl : go < w8.heap.size := World.block_lt_of_cell? _ _ s8.1
                  have hg10 : w10.heap[go]? = w8.heap[go]? := (g10.block go (by simp; omega) (fun e => hgo go e.symm rfl)).trans (Below.heap_alloc _ _ _ hgl)
                  have hgm : go ≠ G + 1 := fun e => own_notBlk O7 M7.blk (by decide) (by rw [← e]; rfl)
                  have s10 : w10.cell? ⟨go, 0, none⟩ = some (.int .i64 (A : Int)) ∧ w10.cell? ⟨go, 1, none⟩ = some (.int .i64 (D : Int)) ∧ w10.cell? ⟨go, 2, none⟩ = some (.slice po ps.length pc) := by
                    unfold World.cell? at s8 ⊢
                    rw [hg10]
                    exact s8
                  have hd10 := (g10.block (G + 1) (by have := M8.lt; simp; omega) (fun e => own_notBlk M9.ot M9.blk (by decide) e.symm)).trans M9.blk
                  have f10 : w10.frozen? ⟨G + 1, 1, none⟩ = false := by simp [World.frozen?, hd10]
                  have e10 : w10.cell? ⟨G + 1, 1, none⟩ = some (.slice (some ⟨gt, 0, none⟩) us.length ct) := by simp [World.cell?, hd10]
                  have s11 : (w10.setCell ⟨G + 1, 1, none⟩ (.slice a10 k10 c10)).cell? ⟨go, 0, none⟩ = some (.int .i64 (A : Int)) ∧ (w10.setCell ⟨G + 1, 1, none⟩ (.slice a10 k10 c10)).cell? ⟨go, 1, none⟩ = some (.int .i64 (D : Int)) ∧ (w10.setCell ⟨G + 1, 1, none⟩ (.slice a10 k10 c10)).cell? ⟨go, 2, none⟩ = some (.slice po ps.length pc) := by
                    have hf : (w10.setCell ⟨G + 1, 1, none⟩ (.slice a10 k10 c10)).heap[go]? = w10.heap[go]? := Below.heap_setCell _ _ _ _ hgm
                    unfold World.cell? at s10 ⊢
                    rw [hf]
                    exact s10
                  have B11 := (B7.trans (B8.mono (by have := M7.lt; omega))).trans (ZZ11.toBelow (by have := M8.lt; omega) Z7.out)
                  have Z11 := Bx.mk (ZZ11.ge (by have := M8.lt; omega) Z7.out)
                  refine hK _ _ s10 ?_
                  clear hK
                  simp only [Act.put, List.setIfInBounds_toArray]
                  refine wpAnyH_do 17 109 rfl rfl (by kernel_rfl) (by kernel_rfl) (by kernel_rfl) (fun _ _ _ _ _ h => h) (by kernel_rfl) (fun W hS => by (obtain ⟨s1, s2, s3⟩ := hS); go_simp; try with_reducible rfl) s10 ?_
                  simp only [List.setIfInBounds_toArray, List.set_cons_succ, List.set_cons_zero]
                  refine wpAnyH_one 18 rfl (by kernel_rfl) (by kernel_rfl) (fun K hK => ?_)
                  go_simp
                  refine hK _ _ s11 ?_
                  clear hK
                  refine wpAnyH_done (by kernel_rfl) ?_ _
                  clear s8 m8 s9 m9 s10 s11 f10 e10 hd10
                  go_wp2_with fail
                  go_roundw
                  case rel => exact .inr ⟨rfl, _, _, M11, B11, Z11⟩
                  case measure => simp [intOf]
                · go_simp
                  refine hK _ _ s7 ?_
                  clear hK
                  refine wpAnyH_two 1 14 rfl rfl (by kernel_rfl) (by kernel_rfl) (by kernel_rfl) (fun K hK => ?_) (fun K hK => ?_)
                  · go_simp
                    refine hK _ _ s7 ?_
                    clear hK
                    refine wpAnyH_one 14 rfl (by kernel_rfl) (by kernel_rfl) (fun K hK => ?_)
                    go_simp
                    refine (HSP.out _ BD).mono ?_
                    rintro e w8 ⟨v8, rfl, MK8⟩
                    obtain ⟨B8, s8, m8, s9, m9, k8, a8, c8, rfl, HL8⟩ := HAF.out w8 v8 MK8.1 MK8.2
                    replace s9 := s9 (.cells #[.slice a8 k8 c8] 22)
                    replace m9 := m9 (.cells #[.slice a8 k8 c8] 22)
                    refine hK _ _ s8 ?_
                    clear hK
                    refine wpAnyH_one 15 rfl (by kernel_rfl) (by kernel_rfl) (fun K hK => ?_)
                    go_simp
                    refine hK _ _ s9 ?_
                    clear hK
                    have BA8 := (Below.refl w8.heap.size w8).alloc (Nat.le_refl _) (.cells #[.slice a8 k8 c8] 22)
                    have M8 := M7.later B8
                    have M9 := M8.later BA8
                    refine wpAnyH_one 16 rfl (by kernel_rfl) (by kernel_rfl) (fun K hK => ?_)
                    refine opApp _ _ rfl Try.elVI N (.slice (some ⟨gt, 0, none⟩) us.length ct) us.length us rfl M9.ot (.slice (some ⟨w8.heap.size, 0, none⟩) 1 1) 1 [.slice a8 k8 c8] rfl (Rv.one _ _ _) rfl (ones1 _ rfl) (by omega) (by have := M8.mlo; have := M8.lt; simp; omega) ?_
                    intro v10 w10 O10 g10 sn10
                    obtain ⟨k10, a10, c10, rfl⟩ := own_shape O10
                    have FT := M7.frz HL8.out (Nat.le_refl _)
                    have e8k : k8 = (tL.take A ++ (ps ++ tL.drop (A + D))).length := own_k HL8.out
                    subst e8k
                    obtain ⟨M11, ZZ11⟩ := M8.texts (u := .slice a8 (tL.take A ++ (ps ++ tL.drop (A + D))).length c8) (t := (tL.take A ++ (ps ++ tL.drop (A + D)))) hut.out (DStep.grownA _ g10 sn10) (by rw [List.length_append]; exact O10) FT
                    have hgo : ∀ g, (Value.slice (some ⟨gt, 0, none⟩) us.length ct).ownBlock = some g → g ≠ go := fun g hg e => own_types O7 M7.ot (by decide) go rfl (e ▸ hg)
                    have hgl : go < w8.heap.size := World.block_lt_of_cell? _ _ s8.1
                    have hg10 : w10.heap[go]? = w8.heap[go]? := (g10.block go (by simp; omega) (fun e => hgo go e.symm rfl)).trans (Below.heap_alloc _ _ _ hgl)
                    have hgm : go ≠ G + 1 := fun e => own_notBlk O7 M7.blk (by decide) (by rw [← e]; rfl)
                    have s10 : w10.cell? ⟨go, 0, none⟩ = some (.int .i64 (A : Int)) ∧ w10.cell? ⟨go, 1, none⟩ = some (.int .i64 (D : Int)) ∧ w10.cell? ⟨go, 2, none⟩ = some (.slice po ps.length pc) := by
                      unfold World.cell? at s8 ⊢
                      rw [hg10]
                      exact s8
                    have hd10 := (g10.block (G + 1) (by have := M8.lt; simp; omega) (fun e => own_notBlk M9.ot M9.blk (by decide) e.symm)).trans M9.blk
                    have f10 : w10.frozen? ⟨G + 1, 1, none⟩ = false := by simp [World.frozen?, hd10]
                    have e10 : w10.cell? ⟨G + 1, 1, none⟩ = some (.slice (some ⟨gt, 0, none⟩) us.length ct) := by simp [World.cell?, hd10]
                    have s11 : (w10.setCell ⟨G + 1, 1, none⟩ (.slice a10 k10 c10)).cell? ⟨go, 0, none⟩ = some (.int .i64 (A : Int)) ∧ (w10.setCell ⟨G + 1, 1, none⟩ (.slice a10 k10 c10)).cell? ⟨go, 1, none⟩ = some (.int .i64 (D : Int)) ∧ (w10.setCell ⟨G + 1, 1, none⟩ (.slice a10 k10 c10)).cell? ⟨go, 2, none⟩ = some (.slice po ps.length pc) := by
                      have hf : (w10.setCell ⟨G + 1, 1, none⟩ (.slice a10 k10 c10)).heap[go]? = w10.heap[go]? := Below.heap_setCell _ _ _ _ hgm
                      unfold World.cell? at s10 ⊢
                      rw [hf]
                      exact s10
                    have B11 := (B7.trans (B8.mono (by have := M7.lt; omega))).trans (ZZ11.toBelow (by have := M8.lt; omega) Z7.out)
                    have Z11 := Bx.mk (ZZ11.ge (by have := M8.lt; omega) Z7.out)
                    refine hK _ _ s10 ?_
                    clear hK
                    simp only [Act.put, List.setIfInBounds_toArray]
                    refine wpAnyH_do 17 109 rfl rfl (by kernel_rfl) (by kernel_rfl) (by kernel_rfl) (fun _ _ _ _ _ h => h) (by kernel_rfl) (fun W hS => by (obtain ⟨s1, s2, s3⟩ := hS); go_simp; try with_reducible rfl) s10 ?_
                    simp only [List.setIfInBounds_toArray, List.set_cons_succ, List.set_cons_zero]
                    refine wpAnyH_one 18 rfl (by kernel_rfl) (by kernel_rfl) (fun K hK => ?_)
                    go_simp
                    refine hK _ _ s11 ?_
                    clear hK
                    refine wpAnyH_done (by kernel_rfl) ?_ _
                    clear s8 m8 s9 m9 s10 s11 f10 e10 hd10
                    go_wp2_with fail
                    go_roundw
                    case rel => exact .inr ⟨rfl, _, _, M11, B11, Z11⟩
                    case measure => simp [intOf]
                  · go_simp
                    refine (HSP.out _ BD).mono ?_
                    rintro e w8 ⟨v8, rfl, MK8⟩
                    obtain ⟨B8, s8, m8, s9, m9, k8, a8, c8, rfl, HL8⟩ := HAF.out w8 v8 MK8.1 MK8.2
                    replace s9 := s9 (.cells #[.slice a8 k8 c8] 22)
                    replace m9 := m9 (.cells #[.slice a8 k8 c8] 22)
                    refine hK _ _ s8 ?_
                    clear hK
                    refine wpAnyH_two 1 15 rfl rfl (by kernel_rfl) (by kernel_rfl) (by kernel_rfl) (fun K hK => ?_) (fun K hK => ?_)
                    · go_simp
                      refine hK _ _ s8 ?_
                      clear hK
                      refine wpAnyH_one 15 rfl (by kernel_rfl) (by kernel_rfl) (fun K hK => ?_)
                      go_simp
                      refine hK _ _ s9 ?_
                      clear hK
                      have BA8 := (Below.refl w8.heap.size w8).alloc (Nat.le_refl _) (.cells #[.slice a8 k8 c8] 22)
                      have M8 := M7.later B8
                      have M9 := M8.later BA8
                      refine wpAnyH_one 16 rfl (by kernel_rfl) (by kernel_rfl) (fun K hK => ?_)
                      refine opApp _ _ rfl Try.elVI N (.slice (some ⟨gt, 0, none⟩) us.length ct) us.length us rfl M9.ot (.slice (some ⟨w8.heap.size, 0, none⟩) 1 1) 1 [.slice a8 k8 c8] rfl (Rv.one _ _ _) rfl (ones1 _ rfl) (by omega) (by have := M8.mlo; have := M8.lt; simp; omega) ?_
                      intro v10 w10 O10 g10 sn10
                      obtain ⟨k10, a10, c10, rfl⟩ := own_shape O10
                      have FT := M7.frz HL8.out (Nat.le_refl _)
                      have e8k : k8 = (tL.take A ++ (ps ++ tL.drop (A + D))).length := own_k HL8.out
                      subst e8k
                      obtain ⟨M11, ZZ11⟩ := M8.texts (u := .slice a8 (tL.take A ++ (ps ++ tL.drop (A + D))).length c8) (t := (tL.take A ++ (ps ++ tL.drop (A + D)))) hut.out (DStep.grownA _ g10 sn10) (by rw [List.length_append]; exact O10) FT
                      have hgo : ∀ g, (Value.slice (some ⟨gt, 0, none⟩) us.length ct).ownBlock = some g → g ≠ go := fun g hg e => own_types O7 M7.ot (by decide) go rfl (e ▸ hg)
                      have hgl : go < w8.heap.size := World.block_lt_of_cell? _ _ s8.1
                      have hg10 : w10.heap[go]? = w8.heap[go]? := (g10.block go (by simp; omega) (fun e => hgo go e.symm rfl)).trans (Below.heap_alloc _ _ _ hgl)
                      have hgm : go ≠ G + 1 := fun e => own_notBlk O7 M7.blk (by decide) (by rw [← e]; rfl)
                      have s10 : w10.cell? ⟨go, 0, none⟩ = some (.int .i64 (A : Int)) ∧ w10.cell? ⟨go, 1, none⟩ = some (.int .i64 (D : Int)) ∧ w10.cell? ⟨go, 2, none⟩ = some (.slice po ps.length pc) := by
                        unfold World.cell? at s8 ⊢
                        rw [hg10]
                        exact s8
                      have hd10 := (g10.block (G + 1) (by have := M8.lt; simp; omega) (fun e => own_notBlk M9.ot M9.blk (by decide) e.symm)).trans M9.blk
                      have f10 : w10.frozen? ⟨G + 1, 1, none⟩ = false := by simp [World.frozen?, hd10]
                      have e10 : w10.cell? ⟨G + 1, 1, none⟩ = some (.slice (some ⟨gt, 0, none⟩) us.length ct) := by simp [World.cell?, hd10]
                      have s11 : (w10.setCell ⟨G + 1, 1, none⟩ (.slice a10 k10 c10)).cell? ⟨go, 0, none⟩ = some (.int .i64 (A : Int)) ∧ (w10.setCell ⟨G + 1, 1, none⟩ (.slice a10 k10 c10)).cell? ⟨go, 1, none⟩ = some (.int .i64 (D : Int)) ∧ (w10.setCell ⟨G + 1, 1, none⟩ (.slice a10 k10 c10)).cell? ⟨go, 2, none⟩ = some (.slice po ps.length pc) := by
                        have hf : (w10.setCell ⟨G + 1, 1, none⟩ (.slice a10 k10 c10)).heap[go]? = w10.heap[go]? := Below.heap_setCell _ _ _ _ hgm
                        unfold World.cell? at s10 ⊢
                        rw [hf]
                        exact s10
                      have B11 := (B7.trans (B8.mono (by have := M7.lt; omega))).trans (ZZ11.toBelow (by have := M8.lt; omega) Z7.out)
                      have Z11 := Bx.mk (ZZ11.ge (by have := M8.lt; omega) Z7.out)
                      refine hK _ _ s10 ?_
                      clear hK
                      simp only [Act.put, List.setIfInBounds_toArray]
                      refine wpAnyH_do 17 109 rfl rfl (by kernel_rfl) (by kernel_rfl) (by kernel_rfl) (fun _ _ _ _ _ h => h) (by kernel_rfl) (fun W hS => by (obtain ⟨s1, s2, s3⟩ := hS); go_simp; try with_reducible rfl) s10 ?_
                      simp only [List.setIfInBounds_toArray, List.set_cons_succ, List.set_cons_zero]
                      refine wpAnyH_one 18 rfl (by kernel_rfl) (by kernel_rfl) (fun K hK => ?_)
                      go_simp
                      refine hK _ _ s11 ?_
                      clear hK
                      refine wpAnyH_done (by kernel_rfl) ?_ _
                      clear s8 m8 s9 m9 s10 s11 f10 e10 hd10
                      go_wp2_with fail
                      go_roundw
                      case rel => exact .inr ⟨rfl, _, _, M11, B11, Z11⟩
                      case measure => simp [intOf]
                    · go_simp
                      refine hK _ _ s9 ?_
                      clear hK
                      refine wpAnyH_one 1 rfl (by kernel_rfl) (by kernel_rfl) (fun K hK => ?_)
                      go_simp
                      refine hK _ _ s9 ?_
                      clear hK
                      have BA8 := (Below.refl w8.heap.size w8).alloc (Nat.le_refl _) (.cells #[.slice a8 k8 c8] 22)
                      have M8 := M7.later B8
                      have M9 := M8.later BA8
                      refine wpAnyH_one 16 rfl (by kernel_rfl) (by kernel_rfl) (fun K hK => ?_)
                      refine opApp _ _ rfl Try.elVI N (.slice (some ⟨gt, 0, none⟩) us.length ct) us.length us rfl M9.ot (.slice (some ⟨w8.heap.size, 0, none⟩) 1 1) 1 [.slice a8 k8 c8] rfl (Rv.one _ _ _) rfl (ones1 _ rfl) (by omega) (by have := M8.mlo; have := M8.lt; simp; omega) ?_
                      intro v10 w10 O10 g10 sn10
                      obtain ⟨k10, a10, c10, rfl⟩ := own_shape O10
                      have FT := M7.frz HL8.out (Nat.le_refl _)
                      have e8k : k8 = (tL.take A ++ (ps ++ tL.drop (A + D))).length := own_k HL8.out
                      subst e8k
                      obtain ⟨M11, ZZ11⟩ := M8.texts (u := .slice a8 (tL.take A ++ (ps ++ tL.drop (A + D))).length c8) (t := (tL.take A ++ (ps ++ tL.drop (A + D)))) hut.out (DStep.grownA _ g10 sn10) (by rw [List.length_append]; exact O10) FT
                      have hgo : ∀ g, (Value.slice (some ⟨gt, 0, none⟩) us.length ct).ownBlock = some g → g ≠ go := fun g hg e => own_types O7 M7.ot (by decide) go rfl (e ▸ hg)
                      have hgl : go < w8.heap.size := World.block_lt_of_cell? _ _ s8.1
                      have hg10 : w10.heap[go]? = w8.heap[go]? := (g10.block go (by simp; omega) (fun e => hgo go e.symm rfl)).trans (Below.heap_alloc _ _ _ hgl)
                      have hgm : go ≠ G + 1 := fun e => own_notBlk O7 M7.blk (by decide) (by rw [← e]; rfl)
                      have s10 : w10.cell? ⟨go, 0, none⟩ = some (.int .i64 (A : Int)) ∧ w10.cell? ⟨go, 1, none⟩ = some (.int .i64 (D : Int)) ∧ w10.cell? ⟨go, 2, none⟩ = some (.slice po ps.length pc) := by
                        unfold World.cell? at s8 ⊢
                        rw [hg10]
                        exact s8
                      have hd10 := (g10.block (G + 1) (by have := M8.lt; simp; omega) (fun e => own_notBlk M9.ot M9.blk (by decide) e.symm)).trans M9.blk
                      have f10 : w10.frozen? ⟨G + 1, 1, none⟩ = false := by simp [World.frozen?, hd10]
                      have e10 : w10.cell? ⟨G + 1, 1, none⟩ = some (.slice (some ⟨gt, 0, none⟩) us.length ct) := by simp [World.cell?, hd10]
                      have s11 : (w10.setCell ⟨G + 1, 1, none⟩ (.slice a10 k10 c10)).cell? ⟨go, 0, none⟩ = some (.int .i64 (A : Int)) ∧ (w10.setCell ⟨G + 1, 1, none⟩ (.slice a10 k10 c10)).cell? ⟨go, 1, none⟩ = some (.int .i64 (D : Int)) ∧ (w10.setCell ⟨G + 1, 1, none⟩ (.slice a10 k10 c10)).cell? ⟨go, 2, none⟩ = some (.slice po ps.length pc) := by
                        have hf : (w10.setCell ⟨G + 1, 1, none⟩ (.slice a10 k10 c10)).heap[go]? = w10.heap[go]? := Below.heap_setCell _ _ _ _ hgm
                        unfold World.cell? at s10 ⊢
                        rw [hf]
                        exact s10
                      have B11 := (B7.trans (B8.mono (by have := M7.lt; omega))).trans (ZZ11.toBelow (by have := M8.lt; omega) Z7.out)
                      have Z11 := Bx.mk (ZZ11.ge (by have := M8.lt; omega) Z7.out)
                      refine hK _ _ s10 ?_
                      clear hK
                      simp only [Act.put, List.setIfInBounds_toArray]
                      refine wpAnyH_do 17 109 rfl rfl (by kernel_rfl) (by kernel_rfl) (by kernel_rfl) (fun _ _ _ _ _ h => h) (by kernel_rfl) (fun W hS => by (obtain ⟨s1, s2, s3⟩ := hS); go_simp; try with_reducible rfl) s10 ?_
                      simp only [List.setIfInBounds_toArray, List.set_cons_succ, List.set_cons_zero]
                      refine wpAnyH_one 18 rfl (by kernel_rfl) (by kernel_rfl) (fun K hK => ?_)
                      go_simp
                      refine hK _ _ s11 ?_
                      clear hK
                      refine wpAnyH_done (by kernel_rfl) ?_ _
                      clear s8 m8 s9 m9 s10 s11 f10 e10 hd10
                      go_wp2_with fail
                      go_roundw
                      case rel => exact .inr ⟨rfl, _, _, M11, B11, Z11⟩
                      case measure => simp [intOf]
            · go_simp
              refine hK _ _ s7 ?_
              clear hK
              refine wpAnyH_do 6 98 rfl rfl (by kernel_rfl) (by kernel_rfl) (by kernel_rfl) (fun _ _ _ _ _ h => h) (by kernel_rfl) (fun W hS => by (obtain ⟨s1, s2, s3⟩ := hS); go_simp; try with_reducible rfl) s7 ?_
              simp only [List.setIfInBounds_toArray, List.set_cons_succ, List.set_cons_zero]
              refine wpAnyH_do 7 99 rfl rfl (by kernel_rfl) (by kernel_rfl) (by kernel_rfl) (fun _ _ _ _ _ h => h) (by kernel_rfl) (fun W hS => by (obtain ⟨s1, s2, s3⟩ := hS); go_simp; try with_reducible rfl) s7 ?_
              simp only [List.setIfInBounds_toArray, List.set_cons_succ, List.set_cons_zero]
              refine wpAnyH_two 1 3 rfl rfl (by kernel_rfl) (by kernel_rfl) (by kernel_rfl) (fun K hK => ?_) (fun K hK => ?_)
              · go_simp
                refine hK _ _ s7 ?_
                clear hK
                refine wpAnyH_one 3 rfl (by kernel_rfl) (by kernel_rfl) (fun K hK => ?_)
                go_simp
                refine hK _ _ s7 ?_
                clear hK
                refine wpAnyH_do 8 100 rfl rfl (by kernel_rfl) (by kernel_rfl) (by kernel_rfl) (fun _ _ _ _ _ h => h) (by kernel_rfl) (fun W hS => by (obtain ⟨s1, s2, s3⟩ := hS); go_simp; try with_reducible rfl) s7 ?_
                simp only [List.setIfInBounds_toArray, List.set_cons_succ, List.set_cons_zero]
                refine wpAnyH_one 9 rfl (by kernel_rfl) (by kernel_rfl) (fun K hK => ?_)
                go_simp
                refine hK _ _ s7 ?_
                clear hK
                refine wpAnyH_one 14 rfl (by kernel_rfl) (by kernel_rfl) (fun K hK => ?_)
                go_simp
                refine (HSP.out _ BD).mono ?_
                rintro e w8 ⟨v8, rfl, MK8⟩
                obtain ⟨B8, s8, m8, s9, m9, k8, a8, c8, rfl, HL8⟩ := HAF.out w8 v8 MK8.1 MK8.2
                replace s9 := s9 (.cells #[.slice a8 k8 c8] 22)
                replace m9 := m9 (.cells #[.slice a8 k8 c8] 22)
                refine hK _ _ s8 ?_
                clear hK
                refine wpAnyH_one 15 rfl (by kernel_rfl) (by kernel_rfl) (fun K hK => ?_)
                go_simp
                refine hK _ _ s9 ?_
                clear hK
                have BA8 := (Below.refl w8.heap.size w8).alloc (Nat.le_refl _) (.cells #[.slice a8 k8 c8] 22)
                have M8 := M7.later B8
                have M9 := M8.later BA8
                refine wpAnyH_one 16 rfl (by kernel_rfl) (by kernel_rfl) (fun K hK => ?_)
                refine opApp _ _ rfl Try.elVI N (.slice (some ⟨gt, 0, none⟩) us.length ct) us.length us rfl M9.ot (.slice (some ⟨w8.heap.size, 0, none⟩) 1 1) 1 [.slice a8 k8 c8] rfl (Rv.one _ _ _) rfl (ones1 _ rfl) (by omega) (by have := M8.mlo; have := M8.lt; simp; omega) ?_
                intro v10 w10 O10 g10 sn10
                obtain ⟨k10, a10, c10, rfl⟩ := own_shape O10
                have FT := M7.frz HL8.out (Nat.le_refl _)
                have e8k : k8 = (tL.take A ++ (ps ++ tL.drop (A + D))).length := own_k HL8.out
                subst e8k
                obtain ⟨M11, ZZ11⟩ := M8.texts (u := .slice a8 (tL.take A ++ (ps ++ tL.drop (A + D))).length c8) (t := (tL.take A ++ (ps ++ tL.drop (A + D)))) hut.out (DStep.grownA _ g10 sn10) (by rw [List.length_append]; exact O10) FT
                have hgo : ∀ g, (Value.slice (some ⟨gt, 0, none⟩) us.length ct).ownBlock = some g → g ≠ go := fun g hg e => own_types O7 M7.ot (by decide) go rfl (e ▸ hg)
                have hgl : go < w8.heap.size := World.block_lt_of_cell? _ _ s8.1
                have hg10 : w10.heap[go]? = w8.heap[go]? := (g10.block go (by simp; omega) (fun e => hgo go e.symm rfl)).trans (Below.heap_alloc _ _ _ hgl)
                have hgm : go ≠ G + 1 := fun e => own_notBlk O7 M7.blk (by decide) (by rw [← e]; rfl)
                have s10 : w10.cell? ⟨go, 0, none⟩ = some (.int .i64 (A : Int)) ∧ w10.cell? ⟨go, 1, none⟩ = some (.int .i64 (D : Int)) ∧ w10.cell? ⟨go, 2, none⟩ = some (.slice po ps.length pc) := by
                  unfold World.cell? at s8 ⊢
                  rw [hg10]
                  exact s8
                have hd10 := (g10.block (G + 1) (by have := M8.lt; simp; omega) (fun e => own_notBlk M9.ot M9.blk (by decide) e.symm)).trans M9.blk
                have f10 : w10.frozen? ⟨G + 1, 1, none⟩ = false := by simp [World.frozen?, hd10]
                have e10 : w10.cell? ⟨G + 1, 1, none⟩ = some (.slice (some ⟨gt, 0, none⟩) us.length ct) := by simp [World.cell?, hd10]
                have s11 : (w10.setCell ⟨G + 1, 1, none⟩ (.slice a10 k10 c10)).cell? ⟨go, 0, none⟩ = some (.int .i64 (A : Int)) ∧ (w10.setCell ⟨G + 1, 1, none⟩ (.slice a10 k10 c10)).cell? ⟨go, 1, none⟩ = some (.int .i64 (D : Int)) ∧ (w10.setCell ⟨G + 1, 1, none⟩ (.slice a10 k10 c10)).cell? ⟨go, 2, none⟩ = some (.slice po ps.length pc) := by
                  have hf : (w10.setCell ⟨G + 1, 1, none⟩ (.slice a10 k10 c10)).heap[go]? = w10.heap[go]? := Below.heap_setCell _ _ _ _ hgm
                  unfold World.cell? at s10 ⊢
                  rw [hf]
                  exact s10
                have B11 := (B7.trans (B8.mono (by have := M7.lt; omega))).trans (ZZ11.toBelow (by have := M8.lt; omega) Z7.out)
                have Z11 := Bx.mk (ZZ11.ge (by have := M8.lt; omega) Z7.out)
                refine hK _ _ s10 ?_
                clear hK
                simp only [Act.put, List.setIfInBounds_toArray]
                refine wpAnyH_do 17 109 rfl rfl (by kernel_rfl) (by kernel_rfl) (by kernel_rfl) (fun _ _ _ _ _ h => h) (by kernel_rfl) (fun W hS => by (obtain ⟨s1, s2, s3⟩ := hS); go_simp; try with_reducible rfl) s10 ?_
                simp only [List.setIfInBounds_toArray, List.set_cons_succ, List.set_cons_zero]
                refine wpAnyH_one 18 rfl (by kernel_rfl) (by kernel_rfl) (fun K hK => ?_)
                go_simp
                refine hK _ _ s11 ?_
                clear hK
                refine wpAnyH_done (by kernel_rfl) ?_ _
                clear s8 m8 s9 m9 s10 s11 f10 e10 hd10
                go_wp2_with fail
                go_roundw
                case rel => exact .inr ⟨rfl, _, _, M11, B11, Z11⟩
                case measure => simp [intOf]
              · go_simp
                refine hK _ _ s7 ?_
                clear hK
                refine wpAnyH_do 8 100 rfl rfl (by kernel_rfl) (by kernel_rfl) (by kernel_rfl) (fun _ _ _ _ _ h => h) (by kernel_rfl) (fun W hS => by (obtain ⟨s1, s2, s3⟩ := hS); go_simp; try with_reducible rfl) s7 ?_
                simp only [List.setIfInBounds_toArray, List.set_cons_succ, List.set_cons_zero]
                refine wpAnyH_two 1 9 rfl rfl (by kernel_rfl) (by kernel_rfl) (by kernel_rfl) (fun K hK => ?_) (fun K hK => ?_)
                · go_simp
                  refine hK _ _ s7 ?_
                  clear hK
                  refine wpAnyH_one 9 rfl (by kernel_rfl) (by kernel_rfl) (fun K hK => ?_)
                  go_simp
                  refine hK _ _ s7 ?_
                  clear hK
                  refine wpAnyH_one 14 rfl (by kernel_rfl) (by kernel_rfl) (fun K hK => ?_)
                  go_simp
                  refine (HSP.out _ BD).mono ?_
                  rintro e w8 ⟨v8, rfl, MK8⟩
                  obtain ⟨B8, s8, m8, s9, m9, k8, a8, c8, rfl, HL8⟩ := HAF.out w8 v8 MK8.1 MK8.2
                  replace s9 := s9 (.cells #[.slice a8 k8 c8] 22)
                  replace m9 := m9 (.cells #[.slice a8 k8 c8] 22)
                  refine hK _ _ s8 ?_
                  clear hK
                  refine wpAnyH_one 15 rfl (by kernel_rfl) (by kernel_rfl) (fun K hK => ?_)
                  go_simp
                  refine hK _ _ s9 ?_
                  clear hK
                  have BA8 := (Below.refl w8.heap.size w8).alloc (Nat.le_refl _) (.cells #[.slice a8 k8 c8] 22)
                  have M8 := M7.later B8
                  have M9 := M8.later BA8
                  refine wpAnyH_one 16 rfl (by kernel_rfl) (by kernel_rfl) (fun K hK => ?_)
                  refine opApp _ _ rfl Try.elVI N (.slice (some ⟨gt, 0, none⟩) us.length ct) us.length us rfl M9.ot (.slice (some ⟨w8.heap.size, 0, none⟩) 1 1) 1 [.slice a8 k8 c8] rfl (Rv.one _ _ _) rfl (ones1 _ rfl) (by omega) (by have := M8.mlo; have := M8.lt; simp; omega) ?_
                  intro v10 w10 O10 g10 sn10
                  obtain ⟨k10, a10, c10, rfl⟩ := own_shape O10
                  have FT := M7.frz HL8.out (Nat.le_refl _)
                  have e8k : k8 = (tL.take A ++ (ps ++ tL.drop (A + D))).length := own_k HL8.out
                  subst e8k
                  obtain ⟨M11, ZZ11⟩ := M8.texts (u := .slice a8 (tL.take A ++ (ps ++ tL.drop (A + D))).length c8) (t := (tL.take A ++ (ps ++ tL.drop (A + D)))) hut.out (DStep.grownA _ g10 sn10) (by rw [List.length_append]; exact O10) FT
                  have hgo : ∀ g, (Value.slice (some ⟨gt, 0, none⟩) us.length ct).ownBlock = some g → g ≠ go := fun g hg e => own_types O7 M7.ot (by decide) go rfl (e ▸ hg)
                  have hgl : go < w8.heap.size := World.block_lt_of_cell? _ _ s8.1
                  have hg10 : w10.heap[go]? = w8.heap[go]? := (g10.block go (by simp; omega) (fun e => hgo go e.symm rfl)).trans (Below.heap_alloc _ _ _ hgl)
                  have hgm : go ≠ G + 1 := fun e => own_notBlk O7 M7.blk (by decide) (by rw [← e]; rfl)
                  have s10 : w10.cell? ⟨go, 0, none⟩ = some (.int .i64 (A : Int)) ∧ w10.cell? ⟨go, 1, none⟩ = some (.int .i64 (D : Int)) ∧ w10.cell? ⟨go, 2, none⟩ = some (.slice po ps.length pc) := by
                    unfold World.cell? at s8 ⊢
                    rw [hg10]
                    exact s8
                  have hd10 := (g10.block (G + 1) (by have := M8.lt; simp; omega) (fun e => own_notBlk M9.ot M9.blk (by decide) e.symm)).trans M9.blk
                  have f10 : w10.frozen? ⟨G + 1, 1, none⟩ = false := by simp [World.frozen?, hd10]
                  have e10 : w10.cell? ⟨G + 1, 1, none⟩ = some (.slice (some ⟨gt, 0, none⟩) us.length ct) := by simp [World.cell?, hd10]
                  have s11 : (w10.setCell ⟨G + 1, 1, none⟩ (.slice a10 k10 c10)).cell? ⟨go, 0, none⟩ = some (.int .i64 (A : Int)) ∧ (w10.setCell ⟨G + 1, 1, none⟩ (.slice a10 k10 c10)).cell? ⟨go, 1, none⟩ = some (.int .i64 (D : Int)) ∧ (w10.setCell ⟨G + 1, 1, none⟩ (.slice a10 k10 c10)).cell? ⟨go, 2, none⟩ = some (.slice po ps.length pc) := by
                    have hf : (w10.setCell ⟨G + 1, 1, none⟩ (.slice a10 k10 c10)).heap[go]? = w10.heap[go]? := Below.heap_setCell _ _ _ _ hgm
                    unfold World.cell? at s10 ⊢
                    rw [hf]
                    exact s10
                  have B11 := (B7.trans (B8.mono (by have := M7.lt; omega))).trans (ZZ11.toBelow (by have := M8.lt; omega) Z7.out)
                  have Z11 := Bx.mk (ZZ11.ge (by have := M8.lt; omega) Z7.out)
                  refine hK _ _ s10 ?_
                  clear hK
                  simp only [Act.put, List.setIfInBounds_toArray]
                  refine wpAnyH_do 17 109 rfl rfl (by kernel_rfl) (by kernel_rfl) (by kernel_rfl) (fun _ _ _ _ _ h => h) (by kernel_rfl) (fun W hS => by (obtain ⟨s1, s2, s3⟩ := hS); go_simp; try with_reducible rfl) s10 ?_
                  simp only [List.setIfInBounds_toArray, List.set_cons_succ, List.set_cons_zero]
                  refine wpAnyH_one 18 rfl (by kernel_rfl) (by kernel_rfl) (fun K hK => ?_)
                  go_simp
                  refine hK _ _ s11 ?_
                  clear hK
                  refine wpAnyH_done (by kernel_rfl) ?_ _
                  clear s8 m8 s9 m9 s10 s11 f10 e10 hd10
                  go_wp2_with fail
                  go_roundw
                  case rel => exact .inr ⟨rfl, _, _, M11, B11, Z11⟩
                  case measure => simp [intOf]
                · go_simp
                  refine hK _ _ s7 ?_
                  clear hK
                  refine wpAnyH_two 1 14 rfl rfl (by kernel_rfl) (by kernel_rfl) (by kernel_rfl) (fun K hK => ?_) (fun K hK => ?_)
                  · go_simp
                    refine hK _ _ s7 ?_
                    clear hK
                    refine wpAnyH_one 14 rfl (by kernel_rfl) (by kernel_rfl) (fun K hK => ?_)
                    go_simp
                    refine (HSP.out _ BD).mono ?_
                    rintro e w8 ⟨v8, rfl, MK8⟩
                    obtain ⟨B8, s8, m8, s9, m9, k8, a8, c8, rfl, HL8⟩ := HAF.out w8 v8 MK8.1 MK8.2
                    replace s9 := s9 (.cells #[.slice a8 k8 c8] 22)
                    replace m9 := m9 (.cells #[.slice a8 k8 c8] 22)
                    refine hK _ _ s8 ?_
                    clear hK
                    refine wpAnyH_one 15 rfl (by kernel_rfl) (by kernel_rfl) (fun K hK => ?_)
                    go_simp
                    refine hK _ _ s9 ?_
                    clear hK
                    have BA8 := (Below.refl w8.heap.size w8).alloc (Nat.le_refl _) (.cells #[.slice a8 k8 c8] 22)
                    have M8 := M7.later B8
                    have M9 := M8.later BA8
                    refine wpAnyH_one 16 rfl (by kernel_rfl) (by kernel_rfl) (fun K hK => ?_)
                    refine opApp _ _ rfl Try.elVI N (.slice (some ⟨gt, 0, none⟩) us.length ct) us.length us rfl M9.ot (.slice (some ⟨w8.heap.size, 0, none⟩) 1 1) 1 [.slice a8 k8 c8] rfl (Rv.one _ _ _) rfl (ones1 _ rfl) (by omega) (by have := M8.mlo; have := M8.lt; simp; omega) ?_
                    intro v10 w10 O10 g10 sn10
                    obtain ⟨k10, a10, c10, rfl⟩ := own_shape O10
                    have FT := M7.frz HL8.out (Nat.le_refl _)
                    have e8k : k8 = (tL.take A ++ (ps ++ tL.drop (A + D))).length := own_k HL8.out
                    subst e8k
                    obtain ⟨M11, ZZ11⟩ := M8.texts (u := .slice a8 (tL.take A ++ (ps ++ tL.drop (A + D))).length c8) (t := (tL.take A ++ (ps ++ tL.drop (A + D)))) hut.out (DStep.grownA _ g10 sn10) (by rw [List.length_append]; exact O10) FT
                    have hgo : ∀ g, (Value.slice (some ⟨gt, 0, none⟩) us.length ct).ownBlock = some g → g ≠ go := fun g hg e => own_types O7 M7.ot (by decide) go rfl (e ▸ hg)
                    have hgl : go < w8.heap.size := World.block_lt_of_cell? _ _ s8.1
                    have hg10 : w10.heap[go]? = w8.heap[go]? := (g10.block go (by simp; omega) (fun e => hgo go e.symm rfl)).trans (Below.heap_alloc _ _ _ hgl)
                    have hgm : go ≠ G + 1 := fun e => own_notBlk O7 M7.blk (by decide) (by rw [← e]; rfl)
                    have s10 : w10.cell? ⟨go, 0, none⟩ = some (.int .i64 (A : Int)) ∧ w10.cell? ⟨go, 1, none⟩ = some (.int .i64 (D : Int)) ∧ w10.cell? ⟨go, 2, none⟩ = some (.slice po ps.length pc) := by
                      unfold World.cell? at s8 ⊢
                      rw [hg10]
                      exact s8
                    have hd10 := (g10.block (G + 1) (by have := M8.lt; simp; omega) (fun e => own_notBlk M9.ot M9.blk (by decide) e.symm)).trans M9.blk
                    have f10 : w10.frozen? ⟨G + 1, 1, none⟩ = false := by simp [World.frozen?, hd10]
                    have e10 : w10.cell? ⟨G + 1, 1, none⟩ = some (.slice (some ⟨gt, 0, none⟩) us.length ct) := by simp [World.cell?, hd10]
                    have s11 : (w10.setCell ⟨G + 1, 1, none⟩ (.slice a10 k10 c10)).cell? ⟨go, 0, none⟩ = some (.int .i64 (A : Int)) ∧ (w10.setCell ⟨G + 1, 1, none⟩ (.slice a10 k10 c10)).cell? ⟨go, 1, none⟩ = some (.int .i64 (D : Int)) ∧ (w10.setCell ⟨G + 1, 1, none⟩ (.slice a10 k10 c10)).cell? ⟨go, 2, none⟩ = some (.slice po ps.length pc) := by
                      have hf : (w10.setCell ⟨G + 1, 1, none⟩ (.slice a10 k10 c10)).heap[go]? = w10.heap[go]? := Below.heap_setCell _ _ _ _ hgm
                      unfold World.cell? at s10 ⊢
                      rw [hf]
                      exact s10
                    have B11 := (B7.trans (B8.mono (by have := M7.lt; omega))).trans (ZZ11.toBelow (by have := M8.lt; omega) Z7.out)
                    have Z11 := Bx.mk (ZZ11.ge (by have := M8.lt; omega) Z7.out)
                    refine hK _ _ s10 ?_
                    clear hK
                    simp only [Act.put, List.setIfInBounds_toArray]
                    refine wpAnyH_do 17 109 rfl rfl (by kernel_rfl) (by kernel_rfl) (by kernel_rfl) (fun _ _ _ _ _ h => h) (by kernel_rfl) (fun W hS => by (obtain ⟨s1, s2, s3⟩ := hS); go_simp; try with_reducible rfl) s10 ?_
                    simp only [List.setIfInBounds_toArray, List.set_cons_succ, List.set_cons_zero]
                    refine wpAnyH_one 18 rfl (by kernel_rfl) (by kernel_rfl) (fun K hK => ?_)
                    go_simp
                    refine hK _ _ s11 ?_
                    clear hK
                    refine wpAnyH_done (by kernel_rfl) ?_ _
                    clear s8 m8 s9 m9 s10 s11 f10 e10 hd10
                    go_wp2_with fail
                    go_roundw
                    case rel => exact .inr ⟨rfl, _, _, M11, B11, Z11⟩
                    case measure => simp [intOf]
                  · go_simp
                    refine (HSP.out _ BD).mono ?_
                    rintro e w8 ⟨v8, rfl, MK8⟩
                    obtain ⟨B8, s8, m8, s9, m9, k8, a8, c8, rfl, HL8⟩ := HAF.out w8 v8 MK8.1 MK8.2
                    replace s9 := s9 (.cells #[.slice a8 k8 c8] 22)
                    replace m9 := m9 (.cells #[.slice a8 k8 c8] 22)
                    refine hK _ _ s8 ?_
                    clear hK
                    refine wpAnyH_two 1 15 rfl rfl (by kernel_rfl) (by kernel_rfl) (by kernel_rfl) (fun K hK => ?_) (fun K hK => ?_)
                    · go_simp
                      refine hK _ _ s8 ?_
                      clear hK
                      refine wpAnyH_one 15 rfl (by kernel_rfl) (by kernel_rfl) (fun K hK => ?_)
                      go_simp
                      refine hK _ _ s9 ?_
                      clear hK
                      have BA8 := (Below.refl w8.heap.size w8).alloc (Nat.le_refl _) (.cells #[.slice a8 k8 c8] 22)
                      have M8 := M7.later B8
                      have M9 := M8.later BA8
                      refine wpAnyH_one 16 rfl (by kernel_rfl) (by kernel_rfl) (fun K hK => ?_)
                      refine opApp _ _ rfl Try.elVI N (.slice (some ⟨gt, 0, none⟩) us.length ct) us.length us rfl M9.ot (.slice (some ⟨w8.heap.size, 0, none⟩) 1 1) 1 [.slice a8 k8 c8] rfl (Rv.one _ _ _) rfl (ones1 _ rfl) (by omega) (by have := M8.mlo; have := M8.lt; simp; omega) ?_
                      intro v10 w10 O10 g10 sn10
                      obtain ⟨k10, a10, c10, rfl⟩ := own_shape O10
                      have FT := M7.frz HL8.out (Nat.le_refl _)
                      have e8k : k8 = (tL.take A ++ (ps ++ tL.drop (A + D))).length := own_k HL8.out
                      subst e8k
                      obtain ⟨M11, ZZ11⟩ := M8.texts (u := .slice a8 (tL.take A ++ (ps ++ tL.drop (A + D))).length c8) (t := (tL.take A ++ (ps ++ tL.drop (A + D)))) hut.out (DStep.grownA _ g10 sn10) (by rw [List.length_append]; exact O10) FT
                      have hgo : ∀ g, (Value.slice (some ⟨gt, 0, none⟩) us.length ct).ownBlock = some g → g ≠ go := fun g hg e => own_types O7 M7.ot (by decide) go rfl (e ▸ hg)
                      have hgl : go < w8.heap.size := World.block_lt_of_cell? _ _ s8.1
                      have hg10 : w10.heap[go]? = w8.heap[go]? := (g10.block go (by simp; omega) (fun e => hgo go e.symm rfl)).trans (Below.heap_alloc _ _ _ hgl)
                      have hgm : go ≠ G + 1 := fun e => own_notBlk O7 M7.blk (by decide) (by rw [← e]; rfl)
                      have s10 : w10.cell? ⟨go, 0, none⟩ = some (.int .i64 (A : Int)) ∧ w10.cell? ⟨go, 1, none⟩ = some (.int .i64 (D : Int)) ∧ w10.cell? ⟨go, 2, none⟩ = some (.slice po ps.length pc) := by
                        unfold World.cell? at s8 ⊢
                        rw [hg10]
                        exact s8
                      have hd10 := (g10.block (G + 1) (by have := M8.lt; simp; omega) (fun e => own_notBlk M9.ot M9.blk (by decide) e.symm)).trans M9.blk
                      have f10 : w10.frozen? ⟨G + 1, 1, none⟩ = false := by simp [World.frozen?, hd10]
                      have e10 : w10.cell? ⟨G + 1, 1, none⟩ = some (.slice (some ⟨gt, 0, none⟩) us.length ct) := by simp [World.cell?, hd10]
                      have s11 : (w10.setCell ⟨G + 1, 1, none⟩ (.slice a10 k10 c10)).cell? ⟨go, 0, none⟩ = some (.int .i64 (A : Int)) ∧ (w10.setCell ⟨G + 1, 1, none⟩ (.slice a10 k10 c10)).cell? ⟨go, 1, none⟩ = some (.int .i64 (D : Int)) ∧ (w10.setCell ⟨G + 1, 1, none⟩ (.slice a10 k10 c10)).cell? ⟨go, 2, none⟩ = some (.slice po ps.length pc) := by
                        have hf : (w10.setCell ⟨G + 1, 1, none⟩ (.slice a10 k10 c10)).heap[go]? = w10.heap[go]? := Below.heap_setCell _ _ _ _ hgm
                        unfold World.cell? at s10 ⊢
                        rw [hf]
                        exact s10
                      have B11 := (B7.trans (B8.mono (by have := M7.lt; omega))).trans (ZZ11.toBelow (by have := M8.lt; omega) Z7.out)
                      have Z11 := Bx.mk (ZZ11.ge (by have := M8.lt; omega) Z7.out)
                      refine hK _ _ s10 ?_
                      clear hK
                      simp only [Act.put, List.setIfInBounds_toArray]
                      refine wpAnyH_do 17 109 rfl rfl (by kernel_rfl) (by kernel_rfl) (by kernel_rfl) (fun _ _ _ _ _ h => h) (by kernel_rfl) (fun W hS => by (obtain ⟨s1, s2, s3⟩ := hS); go_simp; try with_reducible rfl) s10 ?_
                      simp only [List.setIfInBounds_toArray, List.set_cons_succ, List.set_cons_zero]
                      refine wpAnyH_one 18 rfl (by kernel_rfl) (by kernel_rfl) (fun K hK => ?_)
                      go_simp
                      refine hK _ _ s11 ?_
                      clear hK
                      refine wpAnyH_done (by kernel_rfl) ?_ _
                      clear s8 m8 s9 m9 s10 s11 f10 e10 hd10
                      go_wp2_with fail
                      go_roundw
                      case rel => exact .inr ⟨rfl, _, _, M11, B11, Z11⟩
                      case measure => simp [intOf]
                    · go_simp
                      refine hK _ _ s9 ?_
                      clear hK
                      refine wpAnyH_one 1 rfl (by kernel_rfl) (by kernel_rfl) (fun K hK => ?_)
                      go_simp
                      refine hK _ _ s9 ?_
                      clear hK
                      have BA8 := (Below.refl w8.heap.size w8).alloc (Nat.le_refl _) (.cells #[.slice a8 k8 c8] 22)
                      have M8 := M7.later B8
                      have M9 := M8.later BA8
                      refine wpAnyH_one 16 rfl (by kernel_rfl) (by kernel_rfl) (fun K hK => ?_)
                      refine opApp _ _ rfl Try.elVI N (.slice (some ⟨gt, 0, none⟩) us.length ct) us.length us rfl M9.ot (.slice (some ⟨w8.heap.size, 0, none⟩) 1 1) 1 [.slice a8 k8 c8] rfl (Rv.one _ _ _) rfl (ones1 _ rfl) (by omega) (by have := M8.mlo; have := M8.lt; simp; omega) ?_
                      intro v10 w10 O10 g10 sn10
                      obtain ⟨k10, a10, c10, rfl⟩ := own_shape O10
                      have FT := M7.frz HL8.out (Nat.le_refl _)
                      have e8k : k8 = (tL.take A ++ (ps ++ tL.drop (A + D))).length := own_k HL8.out
                      subst e8k
                      obtain ⟨M11, ZZ11⟩ := M8.texts (u := .slice a8 (tL.take A ++ (ps ++ tL.drop (A + D))).length c8) (t := (tL.take A ++ (ps ++ tL.drop (A + D)))) hut.out (DStep.grownA _ g10 sn10) (by rw [List.length_append]; exact O10) FT
                      have hgo : ∀ g, (Value.slice (some ⟨gt, 0, none⟩) us.length ct).ownBlock = some g → g ≠ go := fun g hg e => own_types O7 M7.ot (by decide) go rfl (e ▸ hg)
                      have hgl : go < w8.heap.size := World.block_lt_of_cell? _ _ s8.1
                      have hg10 : w10.heap[go]? = w8.heap[go]? := (g10.block go (by simp; omega) (fun e => hgo go e.symm rfl)).trans (Below.heap_alloc _ _ _ hgl)
                      have hgm : go ≠ G + 1 := fun e => own_notBlk O7 M7.blk (by decide) (by rw [← e]; rfl)
                      have s10 : w10.cell? ⟨go, 0, none⟩ = some (.int .i64 (A : Int)) ∧ w10.cell? ⟨go, 1, none⟩ = some (.int .i64 (D : Int)) ∧ w10.cell? ⟨go, 2, none⟩ = some (.slice po ps.length pc) := by
                        unfold World.cell? at s8 ⊢
                        rw [hg10]
                        exact s8
                      have hd10 := (g10.block (G + 1) (by have := M8.lt; simp; omega) (fun e => own_notBlk M9.ot M9.blk (by decide) e.symm)).trans M9.blk
                      have f10 : w10.frozen? ⟨G + 1, 1, none⟩ = false := by simp [World.frozen?, hd10]
                      have e10 : w10.cell? ⟨G + 1, 1, none⟩ = some (.slice (some ⟨gt, 0, none⟩) us.length ct) := by simp [World.cell?, hd10]
                      have s11 : (w10.setCell ⟨G + 1, 1, none⟩ (.slice a10 k10 c10)).cell? ⟨go, 0, none⟩ = some (.int .i64 (A : Int)) ∧ (w10.setCell ⟨G + 1, 1, none⟩ (.slice a10 k10 c10)).cell? ⟨go, 1, none⟩ = some (.int .i64 (D : Int)) ∧ (w10.setCell ⟨G + 1, 1, none⟩ (.slice a10 k10 c10)).cell? ⟨go, 2, none⟩ = some (.slice po ps.length pc) := by
                        have hf : (w10.setCell ⟨G + 1, 1, none⟩ (.slice a10 k10 c10)).heap[go]? = w10.heap[go]? := Below.heap_setCell _ _ _ _ hgm
                        unfold World.cell? at s10 ⊢
                        rw [hf]
                        exact s10
                      have B11 := (B7.trans (B8.mono (by have := M7.lt; omega))).trans (ZZ11.toBelow (by have := M8.lt; omega) Z7.out)
                      have Z11 := Bx.mk (ZZ11.ge (by have := M8.lt; omega) Z7.out)
                      refine hK _ _ s10 ?_
                      clear hK
                      simp only [Act.put, List.setIfInBounds_toArray]
                      refine wpAnyH_do 17 109 rfl rfl (by kernel_rfl) (by kernel_rfl) (by kernel_rfl) (fun _ _ _ _ _ h => h) (by kernel_rfl) (fun W hS => by (obtain ⟨s1, s2, s3⟩ := hS); go_simp; try with_reducible rfl) s10 ?_
                      simp only [List.setIfInBounds_toArray, List.set_cons_succ, List.set_cons_zero]
                      refine wpAnyH_one 18 rfl (by kernel_rfl) (by kernel_rfl) (fun K hK => ?_)
                      go_simp
                      refine hK _ _ s11 ?_
                      clear hK
                      refine wpAnyH_done (by kernel_rfl) ?_ _
                      clear s8 m8 s9 m9 s10 s11 f10 e10 hd10
                      go_wp2_with fail
                      go_roundw
                      case rel => exact .inr ⟨rfl, _, _, M11, B11, Z11⟩
                      case measure => simp [intOf]
            --#H
          · have KM2 := KM.out.snoc (x := ⟨c, nx, b, ⟨pa, pd, ps⟩⟩) (by rw [← cntN_its, List.map_map]; exact HNX.out.symm) (by rw [List.length_map]; show b ≤ _; have := HXL.out; have := HL.out; omega) hc2 HP2.out (by rw [HTB.out]; exact HP1.out) (by rw [List.length_map]; omega)
            rw [List.length_map, HXL.out, HTL.out, HSPL.out, ← hyeB.out] at KM2
            have KM3 : MadeOk t0 ((xs ++ [ItV.mk (It.mk c nx b (Ed.mk pa pd ps)) po pc]).map (·.x)) ((l ++ [takeV l (ItV.mk (It.mk c nx b (Ed.mk pa pd ps)) po pc)]).map (·.e)) (ts ++ [(tL.take A ++ (ps ++ tL.drop (A + D)))]) := by
              rw [List.map_append, List.map_append]
              exact KM2
            have M11 : MkS N wr (G + 1) (G + 1 + 1) (.slice a6 k6 c6) vt' va5 vc5 (xs ++ [ItV.mk (It.mk c nx b (Ed.mk pa pd ps)) po pc]) (us ++ [u]) (ts ++ [(tL.take A ++ (ps ++ tL.drop (A + D)))]) (l ++ [takeV l (ItV.mk (It.mk c nx b (Ed.mk pa pd ps)) po pc)]) ((xs ++ [ItV.mk (It.mk c nx b (Ed.mk pa pd ps)) po pc]).map (·.x.c)) := by
              rw [List.map_append]
              exact M10
            have HKM3 := Bx.mk KM3
            clear KM2 KM3 M10
            go_wp2_with fail
            go_roundw
            case rel => exact ⟨i + 2, _, vt', va5, vc5, xs ++ [ItV.mk (It.mk c nx b (Ed.mk pa pd ps)) po pc], us ++ [u], ts ++ [(tL.take A ++ (ps ++ tL.drop (A + D)))], l ++ [takeV l (ItV.mk (It.mk c nx b (Ed.mk pa pd ps)) po pc)], by go_num, ⟨by have := hi.out; rw [List.length_append, List.length_singleton]; omega⟩, by rw [List.length_append, List.length_singleton]; omega, ⟨by rw [List.length_append, List.length_append, hut.out]; rfl⟩, M11, HKM3, B10, Z10⟩
            case measure => have := hi.out; simp [intOf]; omega
      · have hwi : IntKind.i64.wrap ((i : Int) + 1) = (i : Int) + 1 := by rw [IntKind.wrap_i64]; omega
        have KK := KM.out
        obtain ⟨F1, F2⟩ := made_last S.end ((B.block R hRG).trans R0) C (by omega) KK hut.out hx6
        have HF1 := Bx.mk F1
        have HF2 := Bx.mk F2
        clear F1 F2
        go_wp2_with fail
        refine bodyPost_ret (results_made rfl _ rfl HF1.out) rfl ?_
        exact HF2.out
    · have hwi : IntKind.i64.wrap ((i : Int) + 1) = (i : Int) + 1 := by rw [IntKind.wrap_i64]; omega
      have KK := KM.out
      obtain ⟨F1, F2⟩ := made_last S.end ((B.block R hRG).trans R0) C (by omega) KK hut.out hx6
      have HF1 := Bx.mk F1
      have HF2 := Bx.mk F2
      clear F1 F2
      go_wp2_with fail
      refine bodyPost_ret (results_made rfl _ rfl HF1.out) rfl ?_
      exact HF2.out
end Go.Proofs.Ytpehnggglolnoaa
