/- Several texts in one: EdJ EdK. -/
import Derived.Test.YtpehnggglolnoaaEdH
import Derived.Test.YtpehnggglolnoaaEdI
import Derived.Test.YtpehnggglolnoaaJlD
import Derived.Deep.CutBlock
/- The law JournalEdits: its state. -/
namespace Go.Proofs.Ytpehnggglolnoaa
open Go.RowKit

/-- Moved over few small edits an edit stays small. -/
theorem foldl_small : ∀ (os : List Ed), (∀ o ∈ os, InT 100 o ∧ o.s.length ≤ 3) → ∀ (n : Nat) (e : Ed), 100 ≤ n → InT n e → InT (n + 3 * os.length) (os.foldl mvE e)
  | [], _, n, e, _, he => by simpa using he
  | o :: os, ho, n, e, hn, he => by
    obtain ⟨h1, h2⟩ := ho o (by simp)
    have h3 : ((n - o.d.toNat + o.s.length : Nat) : Int) = (n : Int) - o.d + (o.s.length : Int) := by
      have := h1.1
      have := h1.2.1
      have := h1.2.2
      omega
    have h4 := mvE_in he (h1.mono hn) h3
    have h5 := foldl_small os (fun p hp => ho p (by simp [hp])) (n + 3) (mvE e o) (by omega) (h4.mono (by omega))
    rw [List.foldl_cons, List.length_cons]
    exact h5.mono (by omega)
/-- The record of an edit; the records. -/
def recE (i : Nat) (e : Ed) : List UInt8 := encI [1, (i : Int), (i : Int), e.a, e.d] e.s
def recsE (es : List Ed) : List (List UInt8) := (List.range es.length).map fun i => recE i (es.getD i ⟨0, 0, []⟩)
theorem recsE_len (es : List Ed) : (recsE es).length = es.length := by simp [recsE]
theorem recsE_at (es : List Ed) {i : Nat} {e : Ed} (h : es[i]? = some e) : (recsE es)[i]? = some (recE i e) := by
  have hlt := (List.getElem?_eq_some_iff.1 h).1
  unfold recsE
  rw [List.getElem?_map, List.getElem?_range hlt]
  simp only [Option.map_some]
  rw [List.getD_eq_getElem?_getD, h]
  rfl
theorem LsX.atE {w : World} {X : Nat → Prop} {base : Nat} {v : Value} {us : List Value} {L : List (List UInt8)} (h : LsX w X base v us L) (i : Nat) (hi : i < L.length) :
    ∃ b off cap u, v = .slice (some ⟨b, off, none⟩) L.length cap ∧ w.cell? ⟨b, off + i, none⟩ = some u ∧ Rv w u L[i].length (L[i].map vB) := h.ls.at i hi
/-- What Make made, apart from what the law writes. -/
structure MadeF (N : Nat) (W : World) (Z : Nat → Prop) (mb : Nat) (vi vt : Value) (xs : List ItV) (us : List Value) (ts : List (List Int)) : Prop where
  blk : W.heap[mb]? = some (.cells #[vi, vt] 35 (0, 0))
  nb : ¬ Z mb
  oi : W.ownsRow N 47 6 vi xs.length (itcells xs)
  fi : Off vi Z
  ot : W.ownsRow N 22 1 vt us.length us
  ft : Off vt Z
  rx : ∀ p ∈ xs, Frz W Z p.ed.ins p.x.e.s.length (p.x.e.s.map (Value.int .i64))
  ru : ∀ i u, us[i]? = some u → Frz W Z u (ts.getD i []).length ((ts.getD i []).map (Value.int .i64))
section
variable {N mb : Nat} {W W' : World} {Z Z' : Nat → Prop} {vi vt : Value} {xs : List ItV} {us : List Value} {ts : List (List Int)}
theorem MadeF.lt (h : MadeF N W Z mb vi vt xs us ts) : mb < W.heap.size := (Array.getElem?_eq_some_iff.1 h.blk).1
theorem MadeF.c0 (h : MadeF N W Z mb vi vt xs us ts) : W.cell? ⟨mb, 0, none⟩ = some vi := by simp [World.cell?, h.blk]
theorem MadeF.c1 (h : MadeF N W Z mb vi vt xs us ts) : W.cell? ⟨mb, 1, none⟩ = some vt := by simp [World.cell?, h.blk]
theorem MadeF.step (h : MadeF N W Z mb vi vt xs us ts) (S : DStep Z Z' W W') : MadeF N W' Z' mb vi vt xs us ts :=
  ⟨(S.block mb h.lt h.nb).trans h.blk, fun hz => (S.grow mb hz).elim h.nb (fun h1 => by have := h.lt; omega), own_step h.oi S h.fi, h.fi.step S h.oi, own_step h.ot S h.ft, h.ft.step S h.ot, fun p hp => (h.rx p hp).step S, fun i u hu => (h.ru i u hu).step S⟩
theorem MadeF.later (h : MadeF N W Z mb vi vt xs us ts) (B : Below W.heap.size W W') : MadeF N W' Z mb vi vt xs us ts := h.step (DStep.ofBelow Z B)
/-- The cells of an item. -/
theorem MadeF.item {ai : Option Addr} {n ci : Nat} (h : MadeF N W Z mb (.slice ai n ci) vt xs us ts) {i : Nat} {q : ItV} (hi : xs[i]? = some q) : ∃ g, ai = some ⟨g, 0, none⟩ ∧ ∀ j, j < 6 → W.cell? ⟨g, i * 6 + j, none⟩ = q.cells[j]? := by
  have hlt := (List.getElem?_eq_some_iff.1 hi).1
  have ho := h.oi
  rcases ho.2 with ⟨e, _⟩ | ⟨g, cap, cur, e, _⟩
  · injection e with _ e2
    have := own_k ho
    omega
  · injection e with e1 e2 e3
    subst e1
    refine ⟨g, rfl, fun j hj => ?_⟩
    obtain rfl : n = xs.length := own_k ho
    rw [ho.cellAt (j := i * 6 + j) (by omega)]
    exact itcells_at xs i j q hi hj
theorem MadeF.text {av : Option Addr} {n ct : Nat} (h : MadeF N W Z mb vi (.slice av n ct) xs us ts) {i : Nat} {u : Value} (hi : us[i]? = some u) : ∃ g, av = some ⟨g, 0, none⟩ ∧ W.cell? ⟨g, i, none⟩ = some u := by
  have hlt := (List.getElem?_eq_some_iff.1 hi).1
  have ho := h.ot
  rcases ho.2 with ⟨e, _⟩ | ⟨g, cap, cur, e, _⟩
  · injection e with _ e2
    have := own_k ho
    omega
  · injection e with e1 e2 e3
    subst e1
    refine ⟨g, rfl, ?_⟩
    obtain rfl : n = us.length := own_k ho
    rw [ho.cellAt (j := i) (by omega)]
    exact hi
end
theorem MadeF.of {N : Nat} {W W' : World} {Z : Nat → Prop} {vi vt : Value} {xs : List ItV} {us : List Value} {ts : List (List Int)} (R : MadeR N W vi vt xs us ts) (B : Below W.heap.size W W') (hb : W'.heap[W.heap.size]? = some (.cells #[vi, vt] 35 (0, 0))) (hN : N ≤ W.heap.size) (hZ : ∀ b, Z b → b < N ∨ W.heap.size < b) : MadeF N W' Z W.heap.size vi vt xs us ts := by
  have hs := B.size
  refine ⟨hb, fun hz => (hZ _ hz).elim (fun h => by omega) (fun h => by omega), own_below R.oi B, fun b hv hz => ?_, own_below R.ot B, fun b hv hz => ?_, fun p hp => ⟨(R.rx p hp).1.below B, fun b hv hz => ?_, fun g hg => ?_⟩, fun i u hu => ⟨(R.ru i u hu).1.below B, fun b hv hz => ?_, fun g hg => ?_⟩⟩
  · have := R.oi.lt b hv; rcases hZ b hz with h | h <;> omega
  · have := R.ot.lt b hv; rcases hZ b hz with h | h <;> omega
  · have := (R.rx p hp).2 b hv; rcases hZ b hz with h | h <;> omega
  · have := (R.rx p hp).2 g hg; omega
  · have := (R.ru i u hu).2 b hv; rcases hZ b hz with h | h <;> omega
  · have := (R.ru i u hu).2 g hg; omega
/-- The law's disk, its log, its desk, and what Make made. -/
def edZ (X : Nat → Prop) (q dk : Nat) (va vc : Value) : Nat → Prop := fun b => (X b ∨ b = q) ∨ dkF dk va vc (.slice none 0 0) b
structure EdM (w W : World) (N p q : Nat) (X : Nat → Prop) (D : Dk) (g : Lg) (dk : Nat) (va vc : Value) (l : List EdV) (cs : List Nat) (mb : Nat) (vi vt : Value) (xs : List ItV) (us : List Value) (ts : List (List Int)) : Prop where
  jl : JL w W p q X D 1 g
  ds : DeskX W N dk va vc (.slice none 0 0) l cs []
  sep : Sep (dkF dk va vc (.slice none 0 0)) fun b => X b ∨ b = q
  mf : MadeF N W (edZ X q dk va vc) mb vi vt xs us ts
  nw : w.heap.size ≤ N
section
variable {w W W' : World} {N p q dk mb : Nat} {X X' : Nat → Prop} {D D' : Dk} {g g' : Lg} {va vc va' vc' vi vt : Value} {l l' : List EdV} {cs cs' : List Nat} {xs : List ItV} {us : List Value} {ts : List (List Int)}
theorem EdM.bel (h : EdM w W N p q X D g dk va vc l cs mb vi vt xs us ts) : Below w.heap.size w W := h.jl.js.be
theorem EdM.later (h : EdM w W N p q X D g dk va vc l cs mb vi vt xs us ts) (B : Below W.heap.size W W') : EdM w W' N p q X D g dk va vc l cs mb vi vt xs us ts :=
  ⟨h.jl.later B, h.ds.later B, h.sep, h.mf.later B, h.nw⟩
theorem EdM.ql (h : EdM w W N p q X D g dk va vc l cs mb vi vt xs us ts) : ∀ b, (X b ∨ b = q) → b < W.heap.size := fun b hb => hb.elim (h.jl.js.d.xl b) (fun e => e ▸ h.jl.lg.lt)
/-- An operation of the desk. -/
theorem EdM.desk (h : EdM w W N p q X D g dk va vc l cs mb vi vt xs us ts) (H : DeskX W' N dk va' vc' (.slice none 0 0) l' cs' []) (S : DStep (dkF dk va vc (.slice none 0 0)) (dkF dk va' vc' (.slice none 0 0)) W W') : EdM w W' N p q X D g dk va' vc' l' cs' mb vi vt xs us ts := by
  have hzb : ∀ b, dkF dk va vc (.slice none 0 0) b → w.heap.size ≤ b := fun b hb => Nat.le_trans h.nw (h.ds.fl b hb).1
  have hsX : Sep (dkF dk va vc (.slice none 0 0)) X := fun b hb hx => h.sep b hb (.inl hx)
  have hnq : ¬ dkF dk va vc (.slice none 0 0) q := fun hb => h.sep q hb (.inr rfl)
  exact ⟨⟨⟨h.jl.js.d.other S hsX, h.jl.js.lo, h.jl.js.be.trans (S.toBelow h.bel.size hzb)⟩, h.jl.lg.step S hnq, h.jl.qlo, h.jl.nq⟩, H, h.sep.step S h.ql, h.mf.step (S.wideL fun b => X b ∨ b = q), h.nw⟩
/-- An operation of the log. -/
theorem EdM.log (h : EdM w W N p q X D g dk va vc l cs mb vi vt xs us ts) (H : JL w W' p q X' D' 1 g') (S : DStep (fun b => X b ∨ b = q) (fun b => X' b ∨ b = q) W W') : EdM w W' N p q X' D' g' dk va vc l cs mb vi vt xs us ts :=
  ⟨H, h.ds.kept (fun b hb => S.block b (h.ds.fl b hb).2 (h.sep b hb)), (h.sep.symm.step S (fun b hb => (h.ds.fl b hb).2)).symm, h.mf.step (S.wide (dkF dk va vc (.slice none 0 0))), h.nw⟩
/-- An operation of the disk alone. -/
theorem EdM.disk (h : EdM w W N p q X D g dk va vc l cs mb vi vt xs us ts) (H : DAt W' p X' D') (S : DStep X X' W W') : EdM w W' N p q X' D' g dk va vc l cs mb vi vt xs us ts :=
  h.log (h.jl.step H S) (S.wide fun b => b = q)
end
end Go.Proofs.Ytpehnggglolnoaa

/- The law JournalEdits. -/
namespace Go.Proofs.Ytpehnggglolnoaa
open Go.RowKit

theorem spl_some {t0 : List Int} {its : List It} {es : List Ed} {ts : List (List Int)} (K : MadeOk t0 its es ts) (h6 : its.length ≤ 6) {i : Nat} {e : Ed} (he : es[i]? = some e) : chkE (ts.getD i []).length e = 0 ∧ splR (ts.getD i []) e = ts.getD (i + 1) [] := by
  obtain ⟨h1, h2, h3⟩ := K.inT i e he
  have hl := K.len i
  have hlt := (List.getElem?_eq_some_iff.1 he).1
  have hle := K.le
  obtain ⟨a1, a2, a3⟩ := h1
  have hbad : e.s.any badE = false := by
    rw [List.any_eq_false]
    intro x hx
    obtain ⟨b1, b2⟩ := h3 x hx
    unfold badE
    simp only [decide_eq_true_eq]
    omega
  have hc : chkE (ts.getD i []).length e = 0 := by
    unfold chkE
    rw [if_neg (by omega), hbad, if_neg (by simp), if_neg (by omega)]
  exact ⟨hc, by unfold splR; rw [if_pos hc, K.sp i e he]⟩
theorem off_freshE {w : World} {X : Nat → Prop} (hX : ∀ b, X b → b < w.heap.size) (n c : Nat) : Off (.slice (some ⟨w.heap.size, 0, none⟩) n c) X := fun b hb hx => by
  have e : w.heap.size = b := Option.some.inj hb
  have := hX b hx
  omega
set_option linter.unusedSimpArgs false in
set_option maxRecDepth 20000 in
set_option maxHeartbeats 400000 in
theorem law_JournalEdits (v vm : Value) (l m : List Int) (when' keep : Int) (w : World) (hv : Rv w v l.length (l.map (Value.int .i64))) (hx : ∀ x ∈ l, -9223372036854775808 ≤ x ∧ x ≤ 9223372036854775807)
    (hvm : Rv w vm m.length (m.map (Value.int .i64))) (hxm : ∀ x ∈ m, -9223372036854775808 ≤ x ∧ x ≤ 9223372036854775807) (hwh : -9223372036854775808 ≤ when' ∧ when' ≤ 9223372036854775807) (hk : -9223372036854775808 ≤ keep ∧ keep ≤ 9223372036854775807) :
    Calls Try.prog 3 #[v, vm, .int .i64 when', .int .i64 keep] w (RetT w) := by
  obtain ⟨av, cv, rfl, _⟩ := hv.opened
  obtain ⟨am, cm, rfl, _⟩ := hvm.opened
  have HX := Bx.mk hx
  have HXM := Bx.mk hxm
  have HW := Bx.mk hwh
  have HK := Bx.mk hk
  clear hx hxm hwh hk
  have ha1 := around_lo when' 13 (by decide)
  have ha2 := around_hi when' 13 (by decide)
  have har := fun W => around_any when' 13 (by decide) HW.out.1 HW.out.2 (by decide) W
  obtain ⟨n, hn⟩ : ∃ n, around when' 13 = n := ⟨_, rfl⟩
  rw [hn] at ha1 ha2 har
  have HAR := Bx.mk har
  clear hn har
  obtain ⟨E, hE, U0⟩ := armed_new n
  have HU0 := Bx.mk U0
  clear U0
  go_enter Try.func3, Try.ntmps3
  go_wp2_with fail
  refine (fresh_any w 20000 (by decide) (by decide)).mono ?_
  rintro e w1 ⟨p, X, rfl, D1, lX, B1⟩
  have J1 : JS w w1 p X (newD 20000) := ⟨D1, lX, B1⟩
  clear D1 lX B1
  go_wp2_with fail
  refine (jopen J1 1 hE).mono ?_
  rintro e w2 ⟨q, v2, us2, X2, rfl, J2, hq2, S2, L2⟩
  change JL w w2 p q X2 E 1 ⟨0, false⟩ at J2
  obtain ⟨k2, a2, c2, rfl⟩ := own_shape L2.o.own
  have hq := J2.lg.lt
  clear L2 S2 J1 hE hq2
  go_wp2_with fail
  refine (HAR.out w2).mono ?_
  rintro e w3 ⟨rfl, rfl⟩
  go_wp2_with fail
  refine (darm w2 n (by omega) J2.js.d).mono ?_
  rintro e w3 ⟨rfl, D3, S3⟩
  have J3 := J2.step D3 S3
  clear D3 S3 J2 HAR ha1 ha2 hq
  go_wp2_with fail
  refine (text_any _ l 20 true w3 (hv.below J3.js.be) HX.out (by omega)).mono ?_
  rintro e w4 ⟨v4, rfl, M4⟩
  have J4 := J3.later M4.2
  have ht0 : (textM l 20 true).length ≤ 20 := by unfold textM; rw [List.length_map, List.length_take]; omega
  obtain ⟨t0, hte⟩ : ∃ t, textM l 20 true = t := ⟨_, rfl⟩
  have htx := fun W h => text_any (.slice av l.length cv) l 20 true W h HX.out (by omega)
  rw [hte] at M4 ht0 htx
  have HTX := Bx.mk htx
  have O4 := M4.1
  rw [List.length_map] at O4
  obtain ⟨k4, a4, c4, rfl⟩ := own_shape O4
  obtain rfl : k4 = t0.length := own_k O4
  obtain ⟨N, hN⟩ : ∃ N, w3.heap.size = N := ⟨_, rfl⟩
  rw [hN] at O4
  have hN4 : N ≤ w4.heap.size := by rw [← hN]; exact M4.2.size
  have hXN : ∀ b, (X2 b ∨ b = q) → b < N := fun b hb => by rw [← hN]; exact hb.elim (J3.js.d.xl b) (fun e => e ▸ J3.lg.lt)
  have hwN : w.heap.size ≤ N := by rw [← hN]; exact J3.js.be.size
  clear M4 J3 hte htx hN
  go_wp2_with fail
  refine (make_any _ t0 am cm m N w4 (Rv.of_own O4) (fun g hg => O4.lt g hg) hN4 (hvm.below J4.js.be) HXM.out ht0).mono ?_
  rintro e w5 ⟨vi, vt, xs, us, ts, es, rfl, B5, K, hut, h6, R5⟩
  have J5 := J4.later B5
  obtain ⟨ki, ai, ci, rfl⟩ := own_shape R5.oi
  obtain rfl : ki = xs.length := own_k R5.oi
  obtain ⟨kt, at', ct, rfl⟩ := own_shape R5.ot
  obtain rfl : kt = us.length := own_k R5.ot
  have hN5 : N ≤ w5.heap.size := Nat.le_trans hN4 B5.size
  have HK2 := Bx.mk K
  have HUT := Bx.mk hut
  clear K hut J4 O4 B5
  have A6 := (Below.refl w5.heap.size w5).alloc (Nat.le_refl _) (.cells #[.slice ai xs.length ci, .slice at' us.length ct] 35)
  have A7 := A6.alloc A6.size (.cells #[.slice none 0 0, .slice none 0 0, .slice none 0 0] 41)
  have M6 := World.alloc_heap_new w5 (.cells #[.slice ai xs.length ci, .slice at' us.length ct] 35)
  have M7 := (Below.heap_alloc _ (.cells #[.slice none 0 0, .slice none 0 0, .slice none 0 0] 41) _ (by simp)).trans M6
  have D7 := World.alloc_heap_new (w5.alloc (.cells #[.slice ai xs.length ci, .slice at' us.length ct] 35)) (.cells #[.slice none 0 0, .slice none 0 0, .slice none 0 0] 41)
  rw [World.size_alloc] at D7
  go_wp2_with fail
  have F7 : MadeF N ((w5.alloc (.cells #[.slice ai xs.length ci, .slice at' us.length ct] 35)).alloc (.cells #[.slice none 0 0, .slice none 0 0, .slice none 0 0] 41)) (edZ X2 q (w5.heap.size + 1) (.slice none 0 0) (.slice none 0 0)) w5.heap.size (.slice ai xs.length ci) (.slice at' us.length ct) xs us ts := MadeF.of R5 A7 M7 hN5 (fun b hb => by
    rcases hb with hb | hb | hb | hb | hb
    · exact .inl (hXN b hb)
    · exact .inr (by omega)
    · cases hb
    · cases hb
    · cases hb)
  have E7 : EdM w ((w5.alloc (.cells #[.slice ai xs.length ci, .slice at' us.length ct] 35)).alloc (.cells #[.slice none 0 0, .slice none 0 0, .slice none 0 0] 41)) N p q X2 (E.arm n) ⟨0, false⟩ (w5.heap.size + 1) (.slice none 0 0) (.slice none 0 0) [] [] w5.heap.size (.slice ai xs.length ci) (.slice at' us.length ct) xs us ts :=
    ⟨J5.later A7, ⟨D7, World.ownsRow_nil _ _ _ _, World.ownsRow_nil _ _ _ _, World.ownsRow_nil _ _ _ _, by omega⟩, fun b hb hz => (by
      have h1 := hXN b hz
      rcases hb with hb | hb | hb | hb
      · omega
      · cases hb
      · cases hb
      · cases hb), F7, hwN⟩
  have AR7 : ArmA (recsE es) (E.arm n) ⟨0, false⟩ 0 0 := .inl ⟨rfl, rfl, HU0.out⟩
  have HA7 := Bx.mk AR7
  clear AR7 A6 A7 M6 M7 D7 F7 R5 J5 HU0 hXN hwN hN4 hN5
  generalize (w5.alloc (.cells #[.slice ai xs.length ci, .slice at' us.length ct] 35)).alloc (.cells #[.slice none 0 0, .slice none 0 0, .slice none 0 0] 41) = w7 at *
  obtain ⟨MB, hMB⟩ : ∃ MB, w5.heap.size = MB := ⟨_, rfl⟩
  rw [hMB] at E7 ⊢
  clear hMB
  have hel : es.length = xs.length := by have := HK2.out.le; rwa [List.length_map] at this
  have HEL := Bx.mk hel
  clear hel
  go_loopw [15, 16] (fun dv iv wr => ∃ (i done : Nat) (X : Nat → Prop) (D : Dk) (g : Lg) (va vc : Value) (l' : List EdV), iv = .int .i64 (i : Int) ∧ dv = .int .i64 (done : Int) ∧ i ≤ xs.length ∧ done ≤ i ∧ Bx (l'.map (·.e) = es.take i) ∧ EdM w wr N p q X D g (MB + 1) va vc l' ((xs.take i).map (·.x.c)) MB (.slice ai xs.length ci) (.slice at' us.length ct) xs us ts ∧ Bx (ArmA (recsE es) D g i done)) (fun _ iv _ => xs.length - (intOf iv).toNat)
  case atStart => exact ⟨0, 0, X2, _, _, _, _, [], rfl, rfl, by omega, by omega, ⟨rfl⟩, E7, HA7⟩
  case round =>
    clear E7 HA7
    obtain ⟨i, done, X, D, g, va, vc, l', rfl, rfl, hi, hdi, HLE, M, HA⟩ := hrel
    rename World => W
    have mc0 := M.mf.c0
    by_cases hlt : i < xs.length
    · obtain ⟨⟨⟨c, nx, b, ⟨pa, pd, ps⟩⟩, po, pc⟩, hxi⟩ : ∃ x, xs[i]? = some x := ⟨xs[i], List.getElem?_eq_getElem hlt⟩
      have hxi2 : (xs.map (·.x))[i]? = some ⟨c, nx, b, ⟨pa, pd, ps⟩⟩ := by rw [List.getElem?_map, hxi]; rfl
      obtain ⟨k1, k2, k3, k4, k5⟩ := HK2.out.it i _ hxi2
      have k6 := HK2.out.ed i _ hxi2
      change b ≤ i at k2
      change c ≤ 2 at k3
      have hll : l'.length = i := by
        have h1 := congrArg List.length HLE.out
        rw [List.length_map, List.length_take, HEL.out] at h1
        omega
      have hsm : ∀ o ∈ l', InT 100 o.e ∧ o.e.s.length ≤ 3 := fun o ho => by
        have h1 : o.e ∈ es.take i := by rw [← HLE.out]; exact List.mem_map_of_mem ho
        obtain ⟨j, hj, h2⟩ := List.mem_iff_getElem.1 (List.mem_of_mem_take h1)
        obtain ⟨h3, h4, _⟩ := HK2.out.inT j o.e (by rw [List.getElem?_eq_getElem hj, h2])
        have h5 := HK2.out.len j
        have h7 := HEL.out
        exact ⟨h3.mono (by omega), h4⟩
      have hos : ∀ o ∈ l', SmE o.e := fun o ho => ⟨(hsm o ho).1.mono (by omega), by have := (hsm o ho).2; omega⟩
      have hmv : ∀ k, b + k ≤ l'.length → InT 1000 (((l'.drop b).take k).foldl EdV.mv ⟨⟨pa, pd, ps⟩, po, pc⟩).e := fun k hk => by
        rw [(foldl_mv _ _).1]
        have h1 := foldl_small (((l'.drop b).take k).map (·.e)) (fun o ho => by
          obtain ⟨o', h2, rfl⟩ := List.mem_map.1 ho
          exact hsm o' (List.mem_of_mem_drop (List.mem_of_mem_take h2))) 100 ⟨pa, pd, ps⟩ (Nat.le_refl _) k5
        rw [List.length_map, List.length_take] at h1
        exact h1.mono (by omega)
      have hcn : nx = cntN ((xs.take i).map (·.x.c)) c := by
        have h1 : ((xs.map (·.x)).take i).map (·.c) = (xs.take i).map (·.x.c) := by rw [← List.map_take, List.map_map]; rfl
        rw [← h1, cntN_its]
        exact k1
      have hye : (takeV l' (ItV.mk (It.mk c nx b (Ed.mk pa pd ps)) po pc)).e = takeE (es.take i) ⟨c, nx, b, ⟨pa, pd, ps⟩⟩ := by rw [takeV_e, HLE.out]
      have hyi : (takeV l' (ItV.mk (It.mk c nx b (Ed.mk pa pd ps)) po pc)).ins = .slice po ps.length pc := takeV_ins l' (ItV.mk (It.mk c nx b (Ed.mk pa pd ps)) po pc)
      obtain ⟨ei, hei⟩ : ∃ ei, takeE (es.take i) ⟨c, nx, b, ⟨pa, pd, ps⟩⟩ = ei := ⟨_, rfl⟩
      have hes : ei.s = ps := by rw [← hei]; exact foldl_s _ _
      rw [hei] at hye k6
      have hin := HK2.out.inT i ei k6
      have hil := HK2.out.len i
      obtain ⟨⟨i1, i2, i3⟩, i4, i5⟩ := hin
      have hi6 : i ≤ 6 := by omega
      obtain ⟨ea, ed, es'⟩ := ei
      simp only at hes i1 i2 i3 i4 i5
      subst hes
      have hyc : (takeV l' (ItV.mk (It.mk c nx b (Ed.mk pa pd es')) po pc)).cells = [.int .i64 ea, .int .i64 ed, .slice po es'.length pc] := by
        unfold EdV.cells
        rw [hyi, hye]
      have hrx := (M.mf.rx _ (List.mem_of_getElem? hxi)).rv
      change Rv W (.slice po es'.length pc) es'.length (es'.map (Value.int .i64)) at hrx
      obtain ⟨gi, rfl, hgi⟩ := M.mf.item hxi
      have g0 : W.cell? ⟨gi, i * 6, none⟩ = some (.int .i64 (c : Int)) := hgi 0 (by omega)
      have g1 : W.cell? ⟨gi, i * 6 + 1, none⟩ = some (.int .i64 (nx : Int)) := hgi 1 (by omega)
      have g2 : W.cell? ⟨gi, i * 6 + 2, none⟩ = some (.int .i64 (b : Int)) := hgi 2 (by omega)
      have g3 : W.cell? ⟨gi, i * 6 + 3, none⟩ = some (.int .i64 pa) := hgi 3 (by omega)
      have g4 : W.cell? ⟨gi, i * 6 + 4, none⟩ = some (.int .i64 pd) := hgi 4 (by omega)
      have g5 : W.cell? ⟨gi, i * 6 + 5, none⟩ = some (.slice po es'.length pc) := hgi 5 (by omega)
      have HLL := Bx.mk hll
      have HSM := Bx.mk hos
      have HMV := Bx.mk hmv
      have HCN := Bx.mk hcn
      have HYC := Bx.mk hyc
      have HYE := Bx.mk hye
      have HK6 := Bx.mk k6
      have HK4 := Bx.mk k4
      have HI5 := Bx.mk i5
      have HXI := Bx.mk hxi
      have hb1 : b ≤ l'.length := by omega
      have hl1 : l'.length ≤ 1000 := by omega
      clear hgi hll hsm hos hmv hcn hyc hye hyi hei k1 k2 k4 k5 k6 hxi hxi2 i5
      go_wp2_with fail
      refine (take_any W M.ds (ItV.mk (It.mk c nx b (Ed.mk pa pd es')) po pc) HCN.out hb1 (by show c ≤ 1000; omega) hl1 (by simp; omega) HK4.out.2 (by show es'.length ≤ 1000; omega) hrx HSM.out HMV.out).mono ?_
      rintro e w8 ⟨va8, vc8, vo, rfl, E8, O8, F8, T8⟩
      have M8 := M.desk E8 T8
      obtain ⟨ko, ao8, co8, rfl⟩ := own_shape O8
      obtain rfl : ko = 1 := own_k O8
      have htk : (xs.take i).map (·.x.c) ++ [c] = (xs.take (i + 1)).map (·.x.c) := by
        rw [List.take_add_one, List.map_append, HXI.out]
        rfl
      have hte : (l' ++ [takeV l' (ItV.mk (It.mk c nx b (Ed.mk pa pd es')) po pc)]).map (·.e) = es.take (i + 1) := by
        rw [List.map_append, HLE.out, List.take_add_one, HK6.out]
        show _ ++ [(takeV l' (ItV.mk (It.mk c nx b (Ed.mk pa pd es')) po pc)).e] = _
        rw [HYE.out]
        rfl
      change EdM _ _ _ _ _ _ _ _ _ _ _ _ ((xs.take i).map (·.x.c) ++ [c]) _ _ _ _ _ _ at M8
      rw [htk] at M8
      have HTE := Bx.mk hte
      have hrx8 := (M8.mf.rx _ (List.mem_of_getElem? HXI.out)).rv
      change Rv w8 (.slice po es'.length pc) es'.length (es'.map (Value.int .i64)) at hrx8
      obtain ⟨go, hgo, ho0, ho1, ho2⟩ : ∃ go, ao8 = some ⟨go, 0, none⟩ ∧ w8.cell? ⟨go, 0, none⟩ = some (.int .i64 ea) ∧ w8.cell? ⟨go, 1, none⟩ = some (.int .i64 ed) ∧ w8.cell? ⟨go, 2, none⟩ = some (.slice po es'.length pc) := by
        obtain ⟨go, cq, eq⟩ := ownsRow_succ O8
        injection eq with e1 e2 e3
        subst e1 e3
        rw [HYC.out] at O8
        exact ⟨go, rfl, O8.cellAt (j := 0) (by omega), O8.cellAt (j := 1) (by omega), O8.cellAt (j := 2) (by omega)⟩
      subst hgo
      have hrec := recsE_at es HK6.out
      have hst := HA.out.step hrec (by unfold recE; exact encI_len _ _ i4 rfl) (by rw [recsE_len, HEL.out]; omega)
      have HST := Bx.mk hst
      have hea : RngI ea ∧ RngI ed := ⟨⟨by omega, by omega⟩, ⟨by omega, by omega⟩⟩
      have hn27 : ∀ x ∈ [1, (i : Int), (i : Int), ea, ed], RngI x := by
        intro x hx
        simp only [List.mem_cons, List.not_mem_nil, or_false] at hx
        have h1 : RngI 1 := ⟨by omega, by omega⟩
        have h2 : RngI (i : Int) := ⟨by omega, by omega⟩
        rcases hx with h | h | h | h | h
        · rw [h]; exact h1
        · rw [h]; exact h2
        · rw [h]; exact h2
        · rw [h]; exact hea.1
        · rw [h]; exact hea.2
      have HN27 := Bx.mk hn27
      clear htk hte hrec hst hea hn27 O8 F8 T8 E8 M hrx g0 g1 g2 g3 g4 g5 i1 i2 i3 hil mc0 hb1 hl1
      go_wp2_with fail
      go_loopw [15, 19] (fun dv kv wr => (kv = .int .i64 0 ∧ dv = .int .i64 (done : Int) ∧ w8 = wr) ∨ (kv = .int .i64 1 ∧ ∃ (d2 : Nat) (X' : Nat → Prop) (D' : Dk) (g' : Lg), dv = .int .i64 (d2 : Int) ∧ d2 ≤ i + 1 ∧ EdM w wr N p q X' D' g' (MB + 1) va8 vc8 (l' ++ [takeV l' (ItV.mk (It.mk c nx b (Ed.mk pa pd es')) po pc)]) ((xs.take (i + 1)).map (·.x.c)) MB (.slice (some ⟨gi, 0, none⟩) xs.length ci) (.slice at' us.length ct) xs us ts ∧ Bx (ArmA (recsE es) D' g' (i + 1) d2))) (fun _ kv _ => 1 - (intOf kv).toNat)
      case atStart => exact .inl ⟨rfl, rfl, rfl⟩
      case round =>
        rcases hrel with ⟨rfl, rfl, rfl⟩ | ⟨rfl, d2, X', D', g', rfl, hd2, M9, HA9⟩
        · have hgn : g.n ≤ 1000000000 := by
            rcases HA.out with ⟨_, h, _⟩ | ⟨_, h, _⟩
            · rw [h]; show i ≤ _; omega
            · rw [h]; show done ≤ _; omega
          obtain ⟨r, E9, g9, hlog, hcase⟩ := HST.out
          have HC := Bx.mk hcase
          have HLG := Bx.mk hlog
          have hr19 : r = 0 ∨ r = 19 := hcase.elim (fun h => .inl h.1) (fun h => .inr h.1)
          clear hcase hlog
          go_wp2_with fail
          refine (encode27_any 1 (i : Int) (i : Int) ea ed es' po pc w8 hrx8 HN27.out (fun x hx => by have := HI5.out x hx; exact ⟨by omega, by omega⟩) (by omega)).mono ?_
          rintro en w9 ⟨v9, rfl, O9, B9⟩
          have M9 := M8.later B9
          rw [List.length_map] at O9
          have R9 := Rv.of_own O9
          have hl9 := encI_len [1, (i : Int), (i : Int), ea, ed] es' i4 rfl
          clear O9 hrx8 ho0 ho1 ho2 M8
          go_wp2_with fail
          refine (jappend M9.jl v9 _ R9 (by omega) hgn HLG.out).mono ?_
          rintro en w10 ⟨rfl, X10, J10, S10⟩
          have M10 := M9.log J10 S10
          clear R9 M9 J10 S10 B9 HLG
          rcases hr19 with rfl | rfl
          · have hA := HC.out.elim (fun h => h.2) (fun h => by have := h.1; omega)
            have HA10 := Bx.mk hA
            clear hA HC HA HST
            go_wp2_with fail
            go_roundw
            case rel => exact .inr ⟨rfl, done + 1, X10, E9, g9, by go_num, by omega, M10, HA10⟩
            case measure => simp [intOf]
          · have hA := HC.out.elim (fun h => by have := h.1; omega) (fun h => h.2)
            have HA10 := Bx.mk hA
            clear hA HC HA HST
            go_wp2_with fail
            go_roundw
            case rel => exact .inr ⟨rfl, done, X10, E9, g9, rfl, by omega, M10, HA10⟩
            case measure => simp [intOf]
        · clear hrx8 ho0 ho1 ho2 M8 HST HA
          go_wp2_with fail
          go_roundw
          case rel => exact ⟨i + 1, d2, X', D', g', va8, vc8, _, by go_num, rfl, by omega, by omega, HTE, M9, HA9⟩
          case measure => simp [intOf]; omega
    · obtain rfl : i = xs.length := by omega
      have hrl : (recsE es).length = xs.length := by rw [recsE_len, HEL.out]
      have hAe := HA.out
      rw [← hrl] at hAe
      obtain ⟨n2, E2, hE2, hd1, hd2, hd3⟩ := hAe.end M.jl.js.d.ok (by omega) keep
      rw [hrl] at hd3
      have hkl : ((recsE es).take n2).length = n2 := by rw [List.length_take, hrl]; omega
      have HRL := Bx.mk hrl
      have HE2 := Bx.mk hE2
      clear hAe hrl hE2 HLE HA
      go_wp2_with fail
      have BA := (Below.refl W.heap.size W).alloc (Nat.le_refl _) (.cells #[.int .i64 keep] 3)
      have M10 := M.later BA
      have O10 := off_freshE M.jl.js.d.xl 1 1
      refine (dcrash _ [keep] _ (-1) (by decide) (fun x hx => by rw [List.mem_singleton.1 hx]; exact HK.out.2) M10.jl.js.d (Rv.lit W [.int .i64 keep] 3 1 (by decide)) O10).mono ?_
      rintro e w11 ⟨rfl, D11, S11⟩
      have M11 := M10.disk D11 S11
      clear M10 O10 BA D11 S11 M mc0
      go_wp2_with fail
      refine (jopen M11.jl.js 1 HE2.out).mono ?_
      rintro e w13 ⟨q2, v13, us13, X13, rfl, J13, hq13, S13, L13⟩
      have M13 := M11.disk J13.js.d S13
      obtain ⟨K13, hK13⟩ : ∃ K, (recsE es).take n2 = K := ⟨_, rfl⟩
      rw [hK13] at L13 hkl
      obtain ⟨k13, a13, c13, rfl⟩ := own_shape L13.o.own
      obtain rfl : k13 = K13.length := own_k L13.o.own
      rw [hkl]
      have F13 := M13.mf
      have C13 := M13.bel
      have LL : ∀ i y, K13[i]? = some y → ∃ b off u, a13 = some ⟨b, off, none⟩ ∧ w13.cell? ⟨b, off + i, none⟩ = some u ∧ Rv w13 u y.length (y.map vB) := fun i y hy => by
        obtain ⟨hi, rfl⟩ := List.getElem?_eq_some_iff.1 hy
        obtain ⟨b, off, cap, u, e, h1, h2⟩ := L13.atE i hi
        injection e with e1 e2 e3
        exact ⟨b, off, u, e1, h1, h2⟩
      have mc1 := F13.c1
      have hun : n2 < us.length := by have := HUT.out; have := HK2.out.lt; rw [List.length_map] at this; omega
      have HLL := Bx.mk LL
      have HK13 := Bx.mk hK13
      have HKL := Bx.mk hkl
      clear M11 J13 S13 L13 hq13 LL hK13 hkl M13 HE2
      go_wp2_with fail
      refine (HTX.out w13 (hv.below C13)).mono ?_
      rintro e w14 ⟨v14, rfl, M14⟩
      have R14 := M14.rv
      rw [List.length_map, ← HK2.out.h0] at R14
      have B14 := M14.2
      obtain ⟨a14, c14, rfl, _⟩ := R14.opened
      clear M14 mc1
      go_wp2_with fail
      go_loopw [23, 24] (fun tv iv wr => ∃ i : Nat, iv = .int .i64 (i : Int) ∧ i ≤ n2 ∧ Rv wr tv (ts.getD i []).length ((ts.getD i []).map (Value.int .i64)) ∧ Below w13.heap.size w13 wr) (fun _ iv _ => n2 - (intOf iv).toNat)
      case atStart => exact ⟨0, rfl, by omega, R14, B14⟩
      case round =>
        clear R14 B14
        obtain ⟨i, rfl, hi, RT, BW⟩ := hrel
        rename World => W
        obtain ⟨at4, ct4, hat, _⟩ := RT.opened
        by_cases hlt : i < n2
        · obtain ⟨⟨ea, ed, es'⟩, hei⟩ : ∃ ei, es[i]? = some ei := ⟨es[i]'(by rw [HEL.out]; omega), List.getElem?_eq_getElem _⟩
          obtain ⟨hck, hsp⟩ := spl_some HK2.out (by rw [List.length_map]; omega) hei
          obtain ⟨⟨i1, i2, i3⟩, i4, i5⟩ := HK2.out.inT i _ hei
          have hil := HK2.out.len i
          simp only at i1 i2 i3 i4 i5
          have hrec := recsE_at es hei
          obtain ⟨bg, og, ug, rfl, hcg, hrg⟩ := HLL.out i (recE i ⟨ea, ed, es'⟩) (by rw [← HK13.out, List.getElem?_take, if_pos hlt]; exact hrec)
          have hcg := (BW.cell (World.block_lt_of_cell? _ _ hcg)).trans hcg
          have hrg := hrg.below BW
          have hn27 : ∀ x ∈ [1, (i : Int), (i : Int), ea, ed], RngI x := by
            intro x hx
            simp only [List.mem_cons, List.not_mem_nil, or_false] at hx
            have h1 : RngI 1 := ⟨by omega, by omega⟩
            have h2 : RngI (i : Int) := ⟨by omega, by omega⟩
            rcases hx with h | h | h | h | h
            · rw [h]; exact h1
            · rw [h]; exact h2
            · rw [h]; exact h2
            · rw [h]; exact ⟨by omega, by omega⟩
            · rw [h]; exact ⟨by omega, by omega⟩
          have hs27 : ∀ x ∈ es', RngI x := fun x hx => by have := i5 x hx; exact ⟨by omega, by omega⟩
          have hdec := decode27_any ug 1 (i : Int) (i : Int) ea ed es' W hrg hn27 hs27 i4
          have hspl := fun (v : Value) (iv : Value) (W : World) (h1 : Rv W v (ts.getD i []).length ((ts.getD i []).map (Value.int .i64))) (h2 : Rv W iv es'.length (es'.map (Value.int .i64))) => splice_any v (ts.getD i []) ⟨ea, ed, es'⟩ iv W h1 h2 (by omega) (by show es'.length ≤ _; omega) ⟨by show _ ≤ ea; omega, by show ea ≤ _; omega⟩ ⟨by show _ ≤ ed; omega, by show ed ≤ _; omega⟩
          rw [hck, hsp] at hspl
          have HDEC := Bx.mk hdec
          have HSPL := Bx.mk hspl
          clear hdec hspl hn27 hs27 hck hsp hrec hei i1 i2 i3 i4 i5 hil hrg
          go_wp2_with fail
          refine HDEC.out.mono ?_
          rintro e w15 ⟨ao, k, rfl, O15, B15⟩
          have RT := RT.below B15
          have B16 := bel BW B15
          have RO := Rv.of_own O15
          subst hat
          clear O15 B15 BW hcg HDEC
          go_upto_region 29 with fail
          have A16 := (Below.refl w15.heap.size w15).alloc (Nat.le_refl _) (.cells #[.int .i64 1, .int .i64 (i : Int), .int .i64 (i : Int), .int .i64 ea, .int .i64 ed, .slice ao es'.length k] 51)
          have X16 := World.alloc_heap_new w15 (.cells #[.int .i64 1, .int .i64 (i : Int), .int .i64 (i : Int), .int .i64 ea, .int .i64 ed, .slice ao es'.length k] 51)
          have RT := RT.below A16
          have RO := RO.below A16
          have B17 := bel B16 A16
          generalize w15.alloc (.cells #[.int .i64 1, .int .i64 (i : Int), .int .i64 (i : Int), .int .i64 ea, .int .i64 ed, .slice ao es'.length k] 51) = w16 at *
          have x1 : w16.cell? ⟨w15.heap.size, 1, none⟩ = some (.int .i64 (i : Int)) := by simp [World.cell?, X16]
          have x3 : w16.cell? ⟨w15.heap.size, 3, none⟩ = some (.int .i64 ea) := by simp [World.cell?, X16]
          have x4 : w16.cell? ⟨w15.heap.size, 4, none⟩ = some (.int .i64 ed) := by simp [World.cell?, X16]
          have x5 : w16.cell? ⟨w15.heap.size, 5, none⟩ = some (.slice ao es'.length k) := by simp [World.cell?, X16]
          clear A16 X16 B16
          go_wp2_with fail
          refine (HSPL.out _ _ w16 RT RO).mono ?_
          rintro e w17 ⟨v17, rfl, M17⟩
          have R17 := M17.rv
          rw [List.length_map] at R17
          have B18 := bel B17 M17.2
          clear M17 HSPL RT RO B17 x1 x3 x4 x5
          go_wp2_with fail
          go_roundw
          case rel => exact ⟨i + 1, by go_num, by omega, R17, B18⟩
          case measure => simp [intOf]; omega
        · obtain rfl : i = n2 := by omega
          obtain ⟨un, hun2⟩ : ∃ u, us[i]? = some u := ⟨us[i], List.getElem?_eq_getElem hun⟩
          have F14 := F13.later BW
          have hru := (F14.ru i un hun2).rv
          obtain ⟨gt, rfl, hgt⟩ := F14.text hun2
          have mc1 := F14.c1
          have C14 := bel C13 BW
          have hii : (i : Int) < (us.length : Int) := by omega
          subst hat
          clear F13 HLL
          go_wp2_with fail
          refine (sameInts_refl _ un _ W RT hru).mono ?_
          rintro e w18 ⟨rfl, n18, h18⟩
          have C18 : Below w.heap.size w w18 := by rw [h18]; exact belD C14 _
          clear h18 RT hru F14 mc1 hgt
          go_wp2_with fail
          refine (lives31_any w18).mono ?_
          rintro e w19 ⟨rfl, B19⟩
          go_wp2_with fail
          go_ret
          exact ⟨rfl, bel C18 B19⟩
end Go.Proofs.Ytpehnggglolnoaa
