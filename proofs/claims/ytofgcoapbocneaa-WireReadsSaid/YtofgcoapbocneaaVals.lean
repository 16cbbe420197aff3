/- rexmillref02.Vals: up to eight values from numbers. -/
import Derived.Test.YtofgcoapbocneaaRdv
import Derived.Deep.AppendLies
import Derived.Deep.RegionLaw
namespace Go.Proofs.Ytofgcoapbocneaa
open Go.RowKit

theorem Try.infoV : (Try.prog.info? 47).map (fun i => (i.zero, i.size, i.bytes)) = some (some (.agg #[.int .i64 0, .int .u64 0, .int .i64 0, .slice none 0 0, .slice none 0 0]), 5, 72) := by kernel_rfl
theorem Try.elV : Elem Try.prog 35 47 (.agg #[.int .i64 0, .int .u64 0, .int .i64 0, .slice none 0 0, .slice none 0 0]) 5 72 := ⟨Try.underlying35, Try.infoV, rfl, by decide, by decide⟩

/-- Fields that its kind does not use are zero. -/
structure V.Can (m : V) : Prop where
  k : 0 ≤ m.k ∧ m.k ≤ 5
  u : m.k ≠ 0 → m.u = 0
  n : m.k ≠ 1 → m.k ≠ 2 → m.n = 0
  n2 : m.k = 2 → m.n = 0 ∨ m.n = 1
  b : m.k ≠ 3 → m.k ≠ 4 → m.b = []
  l : m.k ≠ 5 → m.l = []
  s : m.b.length ≤ 1000 ∧ m.l.length ≤ 1000

/-- A list of values under way. -/
structure VI (w wr : World) (ov : Value) (ms : VL) : Prop where
  own : wr.ownsRow w.heap.size 47 5 ov ms.length (flatV ms)
  el : ∀ p ∈ ms, RvV wr wr.heap.size p.1 p.2.1 p.2.2 ∧ p.1.Ok
  fr : ∀ p ∈ ms, ∀ g, (p.2.1.ownBlock = some g ∨ p.2.2.ownBlock = some g) → w.heap.size ≤ g ∧ ov.ownBlock ≠ some g
  bl : Below w.heap.size w wr

theorem VI.start (w : World) : VI w w (.slice none 0 0) [] := ⟨World.ownsRow_nil _ _ _ _, (fun _ h => by cases h), (fun _ h => by cases h), Below.refl _ w⟩

theorem Rv.far {w w' : World} {v : Value} {n : Nat} {us : List Value} {row : Option Nat} (h : Rv w v n us) (hg : w.grownBy w' row) (hne : ∀ g, v.ownBlock = some g → row ≠ some g) (hlt : ∀ g, v.ownBlock = some g → g < w.heap.size) : Rv w' v n us := by
  obtain ⟨ao, cap, rfl, h2, h3, h4, h5⟩ := h
  refine ⟨ao, cap, rfl, h2, h3, h4, ?_⟩
  rcases h5 with h5 | ⟨g, off, rfl, h5⟩
  · exact .inl h5
  · refine .inr ⟨g, off, rfl, fun i u hi => ?_⟩
    have hb := hg.block g (hlt g rfl) (fun e => hne g rfl e.symm)
    rw [← h5 i u hi]
    simp only [World.cell?, hb]

theorem VI.step {w wr w5 w6 : World} {ov ov' : Value} {ms : VL} {m : V} {vb vl : Value} (h : VI w wr ov ms) (hb : Below wr.heap.size wr w5) (R : RvV w5 w5.heap.size m vb vl)
    (hn : ∀ g, (vb.ownBlock = some g ∨ vl.ownBlock = some g) → wr.heap.size ≤ g) (ok : m.Ok)
    (hown : w6.ownsRow w.heap.size 47 5 ov' (ms.length + 1) (flatV ms ++ [.int .i64 m.k, .int .u64 (m.u : Int), .int .i64 m.n, vb, vl])) (hg : w5.grownBy w6 ov.ownBlock) (hs : SameOrNew w5 ov ov') :
    VI w w6 ov' (ms ++ [(m, vb, vl)]) := by
  have hz := h.bl.size
  have hz5 := hb.size
  have hz6 := hg.size
  have hov : ∀ g, ov.ownBlock = some g → w.heap.size ≤ g ∧ g < wr.heap.size := fun g hg => h.own.lt g hg
  have far : ∀ {m : V} {vb vl : Value}, RvV w5 w5.heap.size m vb vl → (∀ g, (vb.ownBlock = some g ∨ vl.ownBlock = some g) → ov.ownBlock ≠ some g) → RvV w6 w6.heap.size m vb vl := fun R hne =>
    ⟨R.b.far hg (fun g e => hne g (.inl e)) R.bl, R.l.far hg (fun g e => hne g (.inr e)) R.ll, fun g e => Nat.lt_of_lt_of_le (R.bl g e) hz6, fun g e => Nat.lt_of_lt_of_le (R.ll g e) hz6⟩
  have nov : ∀ g, g < w5.heap.size → ov.ownBlock ≠ some g → ov'.ownBlock ≠ some g := fun g hlt hne e => by
    rcases hs with hs | hs
    · exact hne (hs ▸ e)
    · have := hs g e; omega
  refine ⟨by simpa [flatV] using hown, fun p hp => ?_, fun p hp g e => ?_, (h.bl.trans (hb.mono hz)).trans ((Below.refl _ _).grown hg (by omega) (fun g e => (hov g e).1))⟩
  · rcases List.mem_append.1 hp with hp | hp
    · have he := h.el p hp
      refine ⟨far ?_ (fun g e => (h.fr p hp g e).2), he.2⟩
      have := he.1.belowb hb
      exact ⟨this.b, this.l, fun g e => Nat.lt_of_lt_of_le (this.bl g e) hz5, fun g e => Nat.lt_of_lt_of_le (this.ll g e) hz5⟩
    · obtain rfl := List.mem_singleton.1 hp
      exact ⟨far R (fun g e e2 => by have := hn g e; have := (hov g e2).2; omega), ok⟩
  · rcases List.mem_append.1 hp with hp | hp
    · have he := h.fr p hp g e
      have hl : g < wr.heap.size := by
        rcases e with e | e
        · exact (h.el p hp).1.bl g e
        · exact (h.el p hp).1.ll g e
      exact ⟨he.1, nov g (by omega) he.2⟩
    · obtain rfl := List.mem_singleton.1 hp
      have h1 := hn g e
      have hl : g < w5.heap.size := by
        rcases e with e | e
        · exact R.bl g e
        · exact R.ll g e
      exact ⟨by omega, nov g hl (fun e2 => by have := (hov g e2).2; omega)⟩

theorem cell_later {w : World} {p : Addr} {u : Value} (h : w.cell? p = some u) (o : Obj) : (w.alloc o).cell? p = some u :=
  (((Below.refl _ w).alloc (Nat.le_refl _) o).cell (World.block_lt_of_cell? w _ h)).trans h
theorem Rv.litH (w : World) (us : List Value) (e : TypeId) (n : Nat) (hm : n ≤ maxLen) (H : Nat) (hH : w.heap.size = H) : Rv (w.alloc (.cells us.toArray e)) (.slice (some ⟨H, 0, none⟩) n n) n us := by
  subst hH
  exact Rv.lit w us e n hm
theorem V.ok0 (U : Nat) (h : U < 18446744073709551616) : V.Ok ⟨0, U, 0, [], []⟩ ∧ V.Can ⟨0, U, 0, [], []⟩ :=
  ⟨⟨h, by simp, by simp, by simp, by simp⟩, ⟨by simp, by simp, by simp, by simp, by simp, by simp, by simp⟩⟩
theorem V.ok1 (n : Int) (h : -9223372036854775808 ≤ n ∧ n ≤ 9223372036854775807) : V.Ok ⟨1, 0, n, [], []⟩ ∧ V.Can ⟨1, 0, n, [], []⟩ :=
  ⟨⟨by simp, h, by simp, by simp, by simp⟩, ⟨by simp, by simp, by simp, by simp, by simp, by simp, by simp⟩⟩
theorem V.ok2 (n : Nat) : V.Ok ⟨2, 0, (n : Int) % 2, [], []⟩ ∧ V.Can ⟨2, 0, (n : Int) % 2, [], []⟩ :=
  ⟨⟨by simp, by simp only; omega, by simp, by simp, by simp⟩, ⟨by simp, by simp, by simp, by intro _; simp only; omega, by simp, by simp, by simp⟩⟩
theorem V.ok3 (k : Int) (hk : k = 3 ∨ k = 4) (b : List UInt8) (h : b.length ≤ 100) : V.Ok ⟨k, 0, 0, b, []⟩ ∧ V.Can ⟨k, 0, 0, b, []⟩ :=
  ⟨⟨by simp, by simp, by simp only; omega, by simp, by simp⟩, ⟨by simp only; omega, by simp, by simp, by simp, by intro h1 h2; simp only at h1 h2; omega, by simp, by simp only [List.length_nil]; omega⟩⟩
theorem V.ok5 (l : List Int) (h : l.length ≤ 100) (hr : ∀ x ∈ l, -9223372036854775808 ≤ x ∧ x ≤ 9223372036854775807) : V.Ok ⟨5, 0, 0, [], l⟩ ∧ V.Can ⟨5, 0, 0, [], l⟩ :=
  ⟨⟨by simp, by simp, by simp, by simp only; omega, hr⟩, ⟨by simp, by simp, by simp, by simp, by simp, by simp, by simp only [List.length_nil]; omega⟩⟩
/-- append of one element, at a step of a region that draws. -/
theorem step_app1 {P : Program} {w : World} {ops : Array Oper} {o : Oper} {a : Act} {K : Act → World → Prop} {Q : Exit → Act → World → Prop} {R : Prop} (hgd : o.guard = none) (s x : Operand) {t e : TypeId} {z : Value} {bytes : Nat}
    (ho : o.op = .call { callee := .builtin .append, args := #[s, x], argTypes := #[t, t] })
    (E : Elem P t e z 1 bytes) (base : Nat)
    (v : Value) (n : Nat) (xs : List Value) (hs : a.eval s = v) (hown : w.ownsRow base e 1 v n xs)
    (H : Nat) (u : Value) (hx : a.eval x = .slice (some ⟨H, 0, none⟩) 1 1) (hb : Rv w (.slice (some ⟨H, 0, none⟩) 1 1) 1 [u]) (h1 : u.oneCell' = true)
    (hbytes : (n + 1) * bytes ≤ 140737488355328) (hbase : base ≤ w.heap.size)
    (h : ∀ v' w', w'.ownsRow base e 1 v' (n + 1) (xs ++ [u]) → w.grownBy w' v.ownBlock → SameOrNew w v v' → K (a.put o.dst v') w') :
    if Region.wanted o (yielded ops a.tmps) = true then Oper.wp P o a w K Q else R := by
  have hw : Region.wanted o (yielded ops a.tmps) = true := by simp [Region.wanted, hgd]
  rw [if_pos hw]
  obtain ⟨i, hi, hz, hsize, hby⟩ := info_parts E.info
  have hle : n + 1 ≤ (n + 1) * bytes := Nat.le_mul_of_pos_right _ E.hby
  obtain ⟨v', w', hr, h2, h3, h4⟩ := run_append_rd2 (P := P) w base t o.type e i z 1 bytes E.ht hi hz hsize hby E.hzs E.hsz v n xs hown _ 1 [u] hb rfl (ones1 u h1) (by unfold maxLen; omega) hbytes hbase
  unfold Oper.wp execOp
  simp only [ho, resolve, invoke, builtin, Sem.run_bind, Sem.run_pure, Result.andThen_ok, List.map_toArray, List.map_cons, List.map_nil, hs, hx, hr]
  exact h v' w' h2 h3 h4
theorem wrap_u8 (y : Int) : ∃ c : UInt8, IntKind.u8.wrap y = (c.toNat : Int) := by
  have h1 : IntKind.u8.wrap y = y % 256 := by rw [IntKind.wrap_u8]
  have h0 : 0 ≤ y % 256 := Int.emod_nonneg _ (by decide)
  have h2 : y % 256 < 256 := Int.emod_lt_of_pos _ (by decide)
  refine ⟨UInt8.ofNat (y % 256).toNat, ?_⟩
  rw [h1, toNat_ofNat_lt _ (by omega)]
  omega
theorem ones5 (a : Int) (u : Int) (n : Int) : ∀ y ∈ [Value.int .i64 a, .int .u64 u, .int .i64 n, .slice none 0 0, .slice none 0 0], y.oneCell' = true := by simp [Value.oneCell']
theorem snoc_len {ms : VL} {i : Nat} (h : Hid (ms.length = i)) (p : V × Value × Value) : Hid ((ms ++ [p]).length = i + 1) := by
  have := h.out
  show _ = _
  simp [this]
theorem can_snoc {ms : VL} (h : Hid (∀ p ∈ ms, p.1.Can)) {m : V} (hm : m.Can) {vb vl : Value} : Hid (∀ p ∈ ms ++ [(m, vb, vl)], p.1.Can) := fun p hp => by
  rcases List.mem_append.1 hp with hp | hp
  · exact h.out p hp
  · rw [List.mem_singleton.1 hp]; exact hm
theorem snoc_hid {α : Type} {l : List α} {i : Nat} (h : Hid (l.length = i)) (p : α) : Hid ((l ++ [p]).length = i + 1) := by
  have := h.out
  show _ = _
  simp [this]
theorem rng_snoc {l : List Int} (h : Hid (∀ y ∈ l, -9223372036854775808 ≤ y ∧ y ≤ 9223372036854775807)) {z : Int} (hz : -9223372036854775808 ≤ z ∧ z ≤ 9223372036854775807) :
    Hid (∀ y ∈ l ++ [z], -9223372036854775808 ≤ y ∧ y ≤ 9223372036854775807) := fun y hy => by
  rcases List.mem_append.1 hy with hy | hy
  · exact h.out y hy
  · rw [List.mem_singleton.1 hy]; exact hz
theorem shr_u (x : Int) (n : Nat) : ∃ U : Nat, IntKind.u64.wrap x / 2 ^ n = (U : Int) ∧ U < 18446744073709551616 := by
  rw [IntKind.wrap_u64]
  have h0 : 0 ≤ x % 18446744073709551616 := Int.emod_nonneg _ (by decide)
  have h1 : x % 18446744073709551616 < 18446744073709551616 := Int.emod_lt_of_pos _ (by decide)
  generalize x % 18446744073709551616 = y at *
  obtain ⟨z, rfl⟩ := Int.eq_ofNat_of_zero_le h0
  refine ⟨z / 2 ^ n, by simp, ?_⟩
  have := Nat.div_le_self z (2 ^ n)
  omega
theorem shr_i (x : Int) (n : Nat) (h1 : -9223372036854775808 ≤ x) (h2 : x ≤ 9223372036854775807) : -9223372036854775808 ≤ x / 2 ^ n ∧ x / 2 ^ n ≤ 9223372036854775807 := by
  have hp : (0 : Int) < 2 ^ n := Int.pow_pos (by decide)
  have hp1 : (1 : Int) ≤ 2 ^ n := hp
  constructor
  · refine (Int.le_ediv_iff_mul_le hp).2 ?_
    have : (1 : Int) * 9223372036854775808 ≤ 2 ^ n * 9223372036854775808 := Int.mul_le_mul_of_nonneg_right hp1 (by decide)
    omega
  · rcases Int.le_total 0 x with h | h
    · exact Int.le_trans (Int.ediv_le_self _ h) h2
    · have := Int.ediv_nonpos_of_nonpos_of_neg h hp
      omega
theorem tdiv6 (x : Int) (h1 : -9223372036854775808 ≤ x) (h2 : x ≤ 9223372036854775807) : -9223372036854775808 ≤ x.tdiv 6 ∧ x.tdiv 6 ≤ 9223372036854775807 := by
  rcases Int.le_total 0 x with h | h
  · rw [Int.tdiv_eq_ediv_of_nonneg h]; omega
  · have e : (-x).tdiv 6 = -x.tdiv 6 := Int.neg_tdiv _ _
    rw [Int.tdiv_eq_ediv_of_nonneg (by omega)] at e
    omega

set_option maxRecDepth 20000 in
set_option maxHeartbeats 4000000 in
theorem vals_any (v : Value) (xs : List Int) (w : World) (hv : Rv w v xs.length (xs.map (Value.int .i64))) (hx : ∀ x ∈ xs, -9223372036854775808 ≤ x ∧ x ≤ 9223372036854775807) :
    Calls Try.prog 19 #[v] w (fun e w' => ∃ (ov : Value) (ms : VL), e = .returned ov ∧ ms.length ≤ 8 ∧ Hid (∀ p ∈ ms, p.1.Can) ∧ VI w w' ov ms) := by
  obtain ⟨ao, cap, rfl, hcap, hrd⟩ := hv.opened
  have HX := Lib.hid hx
  clear hx
  go_enter Try.func19, Try.ntmps19
  go_wp2_with fail
  go_loopw [3, 4] (fun ov nv wr => ∃ (i : Nat) (ms : VL), nv = .int .i64 (i : Int) ∧ i ≤ xs.length ∧ i ≤ 8 ∧ Hid (ms.length = i) ∧ Hid (∀ p ∈ ms, p.1.Can) ∧ VI w wr ov ms) (fun _ nv _ => 8 - (intOf nv).toNat)
  case atStart => exact ⟨0, [], rfl, Nat.zero_le _, Nat.zero_le _, rfl, (fun _ h => by cases h), VI.start w⟩
  case round =>
    obtain ⟨i, ms, rfl, hi, hi8, HM, HC, hI⟩ := hrel
    have hml : ms.length ≤ 8 := by have := HM.out; omega
    by_cases hlt : i < xs.length
    · by_cases h8 : i < 8
      · obtain ⟨b2, off2, rfl, hcx⟩ := ((hv.below hI.bl).rd).cell (i := i) (u := .int .i64 xs[i]) (by simp [hlt])
        obtain ⟨hb1, hb2⟩ := HX.out xs[i] (List.getElem_mem hlt)
        generalize xs[i] = x at *
        have H1 := Lib.hid hb1
        have H2 := Lib.hid hb2
        go_wp2_with fail
        refine (around_nat x 6 (by omega) H1.out H2.out (by omega) _).mono ?_
        rintro e w1 ⟨k, hk, HK, rfl, rfl⟩
        go_wp2_with fail
        have H6 := Lib.hid (tdiv6 x H1.out H2.out)
        refine (around_nat (x.tdiv 6) 63 (by omega) H6.out.1 H6.out.2 (by omega) _).mono ?_
        rintro e w1 ⟨n, hn, HN, rfl, rfl⟩
        clear HK HN H6 hb1 hb2
        have hk' : k = 0 ∨ k = 1 ∨ k = 2 ∨ k = 3 ∨ k = 4 ∨ k = 5 := by omega
        clear hk
        rcases hk' with rfl | rfl | rfl | rfl | rfl | rfl
        · have C0 := Box5.new wr (.int .i64 0) (.int .u64 0) (.int .i64 0) (.slice none 0 0) (.slice none 0 0)
          have hcx2 := cell_later hcx (.cells #[.int .i64 0, .int .u64 0, .int .i64 0, .slice none 0 0, .slice none 0 0] 47)
          have f1 := C0.fr 1
          have g0 := C0.k0
          have g1 := C0.k1
          have g2 := C0.k2
          have g3 := C0.k3
          have g4 := C0.k4
          obtain ⟨U, hU, hU2⟩ := shr_u x n
          have HV := Lib.hid (V.ok0 U hU2)
          clear hU2
          go_wp2_with (at_builtin; refine wpList_app2 _ rfl _ _ rfl Try.elV w.heap.size u3 _ _ rfl (own_below hI.own (((Below.refl _ wr).alloc (Nat.le_refl _) _).alloc (by simp) _)) (.slice (some ⟨wr.heap.size + 1, 0, none⟩) 1 1) 1 [_, _, _, _, _] rfl (Rv.litH _ [_, _, _, _, _] _ 1 (by unfold maxLen; omega) _ (by simp)) (by simp) (ones5 _ _ _) (by omega) (by have := hI.bl.size; simp; omega) ?_; intro ov' w6 hown6 hg6 hs6)
          go_roundw
          case rel => exact ⟨i + 1, _, by go_num, by omega, by omega, snoc_len HM _, can_snoc HC HV.out.2, hI.step (m := ⟨0, U, 0, [], []⟩) (((Below.refl _ wr).alloc (Nat.le_refl _) _).alloc (by simp) _) ⟨Rv.nil _, Rv.nil _, low_nil _, low_nil _⟩ (fun g hg => by rcases hg with hg | hg <;> cases hg) HV.out.1 hown6 hg6 hs6⟩
          case measure => simp [intOf]; omega
        · have C0 := Box5.new wr (.int .i64 1) (.int .u64 0) (.int .i64 0) (.slice none 0 0) (.slice none 0 0)
          have hcx2 := cell_later hcx (.cells #[.int .i64 1, .int .u64 0, .int .i64 0, .slice none 0 0, .slice none 0 0] 47)
          have f1 := C0.fr 2
          have g0 := C0.k0
          have g1 := C0.k1
          have g2 := C0.k2
          have g3 := C0.k3
          have g4 := C0.k4
          have HV := Lib.hid (V.ok1 _ (shr_i x n H1.out H2.out))
          go_wp2_with (at_builtin; refine wpList_app2 _ rfl _ _ rfl Try.elV w.heap.size u3 _ _ rfl (own_below hI.own (((Below.refl _ wr).alloc (Nat.le_refl _) _).alloc (by simp) _)) (.slice (some ⟨wr.heap.size + 1, 0, none⟩) 1 1) 1 [_, _, _, _, _] rfl (Rv.litH _ [_, _, _, _, _] _ 1 (by unfold maxLen; omega) _ (by simp)) (by simp) (ones5 _ _ _) (by omega) (by have := hI.bl.size; simp; omega) ?_; intro ov' w6 hown6 hg6 hs6)
          go_roundw
          case rel => exact ⟨i + 1, _, by go_num, by omega, by omega, snoc_len HM _, can_snoc HC HV.out.2, hI.step (m := ⟨1, 0, x / 2 ^ n, [], []⟩) (((Below.refl _ wr).alloc (Nat.le_refl _) _).alloc (by simp) _) ⟨Rv.nil _, Rv.nil _, low_nil _, low_nil _⟩ (fun g hg => by rcases hg with hg | hg <;> cases hg) HV.out.1 hown6 hg6 hs6⟩
          case measure => simp [intOf]; omega
        · have C0 := Box5.new wr (.int .i64 2) (.int .u64 0) (.int .i64 0) (.slice none 0 0) (.slice none 0 0)
          have hcx2 := cell_later hcx (.cells #[.int .i64 2, .int .u64 0, .int .i64 0, .slice none 0 0, .slice none 0 0] 47)
          have f1 := C0.fr 2
          have g0 := C0.k0
          have g1 := C0.k1
          have g2 := C0.k2
          have g3 := C0.k3
          have g4 := C0.k4
          have HV := Lib.hid (V.ok2 n)
          go_wp2_with (at_builtin; refine wpList_app2 _ rfl _ _ rfl Try.elV w.heap.size u3 _ _ rfl (own_below hI.own (((Below.refl _ wr).alloc (Nat.le_refl _) _).alloc (by simp) _)) (.slice (some ⟨wr.heap.size + 1, 0, none⟩) 1 1) 1 [_, _, _, _, _] rfl (Rv.litH _ [_, _, _, _, _] _ 1 (by unfold maxLen; omega) _ (by simp)) (by simp) (ones5 _ _ _) (by omega) (by have := hI.bl.size; simp; omega) ?_; intro ov' w6 hown6 hg6 hs6)
          go_roundw
          case rel => exact ⟨i + 1, _, by go_num, by omega, by omega, snoc_len HM _, can_snoc HC HV.out.2, hI.step (m := ⟨2, 0, (n : Int) % 2, [], []⟩) (((Below.refl _ wr).alloc (Nat.le_refl _) _).alloc (by simp) _) ⟨Rv.nil _, Rv.nil _, low_nil _, low_nil _⟩ (fun g hg => by rcases hg with hg | hg <;> cases hg) HV.out.1 hown6 hg6 hs6⟩
          case measure => simp [intOf]; omega
        · have C0 := Box5.new wr (.int .i64 3) (.int .u64 0) (.int .i64 0) (.slice none 0 0) (.slice none 0 0)
          have hcx2 := cell_later hcx (.cells #[.int .i64 3, .int .u64 0, .int .i64 0, .slice none 0 0, .slice none 0 0] 47)
          have B0 : Below wr.heap.size wr (wr.alloc (.cells #[.int .i64 3, .int .u64 0, .int .i64 0, .slice none 0 0, .slice none 0 0] 47)) := (Below.refl _ wr).alloc (Nat.le_refl _) _
          obtain ⟨wo, hwo⟩ : ∃ wo : World, wo = wr := ⟨_, rfl⟩
          rw [← hwo] at C0 hcx2 B0 hcx hI
          subst hwo
          go_wp2_with fail
          go_loopw [8] (fun jv wi => ∃ (j : Nat) (bs : List UInt8) (vb : Value), jv = .int .i64 (j : Int) ∧ j ≤ n % 10 ∧ Hid (bs.length = j) ∧ wi.ownsRow (wo.heap.size + 1) 5 1 vb bs.length (bs.map vB) ∧ Box5 wi wo.heap.size (.int .i64 3) (.int .u64 0) (.int .i64 0) vb (.slice none 0 0) ∧ wi.cell? ⟨b2, off2 + i, none⟩ = some (.int .i64 x) ∧ Below wo.heap.size wo wi) (fun jv _ => n % 10 - (intOf jv).toNat)
          case atStart => exact ⟨0, [], _, rfl, Nat.zero_le _, rfl, World.ownsRow_nil _ _ _ _, C0, hcx2, B0⟩
          case round =>
            obtain ⟨j, bs, vb, rfl, hj, HB, hown, C1, hcx3, B1⟩ := hrel
            obtain ⟨kb, ab, cb, rfl⟩ := own_shape hown
            have hbl : bs.length ≤ 10 := by have := HB.out; omega
            by_cases hjl : j < n % 10
            · have k3 := C1.k3
              have f3 := C1.fr 3
              obtain ⟨c, hc⟩ := wrap_u8 (x / 2 ^ min (IntKind.u64.wrap (j : Int)).toNat 64)
              have LT := B1.size
              have LT1 := C1.lt
              have LB := World.block_lt_of_cell? wo _ hcx
              have NE1 : some wo.heap.size ≠ (Value.slice ab kb cb).ownBlock := fun e => by have := (hown.lt _ e.symm).1; omega
              have NE2 : some b2 ≠ (Value.slice ab kb cb).ownBlock := fun e => by have := (hown.lt _ e.symm).1; simp only at LB; omega
              go_wp2_with fail
              go_region_law ((refine step_app1 rfl _ _ (by rfl) Try.elB (wo.heap.size + 1) (.slice ab kb cb) _ _ (by rfl) (own_below hown ((((Below.refl _ wr).drew).alloc (Nat.le_refl _) _))) wr.heap.size (vB c) (by rfl) (Rv.one _ _ _) (by rfl) (by omega) (by simp; omega) ?_; intro v7 w7 hown7 hg7 hs7; obtain ⟨k7, a7, c7, rfl⟩ := own_shape hown7; have C7 := (C1.alloc _).kept (hg7.block wo.heap.size (by simp; omega) NE1); have f7 := C7.fr 3; have e7 := C7.k3))
              all_goals
                have B7 : Below wo.heap.size wo w7 := ((B1.alloc LT _).drew).grown hg7 (by simp; omega) (fun g e => by have := (hown.lt g e).1; omega)
                have B8 := B7.setCell (p := ⟨wo.heap.size, 3, none⟩) (Nat.le_refl _) (.slice a7 k7 c7)
                have C8 := C7.s3 (.slice a7 k7 c7)
                have hown8 := own_bstep hown7 ((BStep.refl wo.heap.size w7).set 3 (.slice a7 k7 c7)) (Nat.lt_succ_self _)
                go_wp2_with fail
                go_roundw
                case rel => exact ⟨j + 1, bs ++ [c], _, by go_num, by omega, snoc_hid HB _, by simpa using hown8, C8, (B8.cell (p := ⟨b2, off2 + i, none⟩) LB).trans hcx, B8⟩
                case measure => simp [intOf]; omega
            · have g0 := C1.k0
              have g1 := C1.k1
              have g2 := C1.k2
              have g3 := C1.k3
              have g4 := C1.k4
              have LT := B1.size
              go_wp2_with (at_builtin; refine wpList_app2 _ rfl _ _ rfl Try.elV w.heap.size u3 _ _ rfl (own_below hI.own (B1.alloc LT _)) (.slice (some ⟨wr.heap.size, 0, none⟩) 1 1) 1 [_, _, _, _, _] rfl (Rv.litH _ [_, _, _, _, _] _ 1 (by unfold maxLen; omega) _ rfl) (by simp) (by simp [Value.oneCell']) (by omega) (by have := hI.bl.size; simp; omega) ?_; intro ov' w6 hown6 hg6 hs6)
              have HV := Lib.hid (V.ok3 3 (by simp) bs (by omega))
              go_roundw
              case rel => exact ⟨i + 1, _, by go_num, by omega, by omega, snoc_len HM _, can_snoc HC HV.out.2, hI.step (m := ⟨3, 0, 0, bs, []⟩) (B1.alloc LT _) ⟨(Rv.of_own hown).below ((Below.refl _ wr).alloc (Nat.le_refl _) _), Rv.nil _, (fun g e => by have := (hown.lt g e).2; simp; omega), low_nil _⟩ (fun g e => e.elim (fun e => by have := (hown.lt g e).1; omega) (fun e => by cases e)) HV.out.1 hown6 hg6 hs6⟩
              case measure => simp [intOf]; omega
        · have C0 := Box5.new wr (.int .i64 4) (.int .u64 0) (.int .i64 0) (.slice none 0 0) (.slice none 0 0)
          have hcx2 := cell_later hcx (.cells #[.int .i64 4, .int .u64 0, .int .i64 0, .slice none 0 0, .slice none 0 0] 47)
          have B0 : Below wr.heap.size wr (wr.alloc (.cells #[.int .i64 4, .int .u64 0, .int .i64 0, .slice none 0 0, .slice none 0 0] 47)) := (Below.refl _ wr).alloc (Nat.le_refl _) _
          obtain ⟨wo, hwo⟩ : ∃ wo : World, wo = wr := ⟨_, rfl⟩
          rw [← hwo] at C0 hcx2 B0 hcx hI
          subst hwo
          go_wp2_with fail
          go_loopw [8] (fun jv wi => ∃ (j : Nat) (bs : List UInt8) (vb : Value), jv = .int .i64 (j : Int) ∧ j ≤ n % 10 ∧ Hid (bs.length = j) ∧ wi.ownsRow (wo.heap.size + 1) 5 1 vb bs.length (bs.map vB) ∧ Box5 wi wo.heap.size (.int .i64 4) (.int .u64 0) (.int .i64 0) vb (.slice none 0 0) ∧ wi.cell? ⟨b2, off2 + i, none⟩ = some (.int .i64 x) ∧ Below wo.heap.size wo wi) (fun jv _ => n % 10 - (intOf jv).toNat)
          case atStart => exact ⟨0, [], _, rfl, Nat.zero_le _, rfl, World.ownsRow_nil _ _ _ _, C0, hcx2, B0⟩
          case round =>
            obtain ⟨j, bs, vb, rfl, hj, HB, hown, C1, hcx3, B1⟩ := hrel
            obtain ⟨kb, ab, cb, rfl⟩ := own_shape hown
            have hbl : bs.length ≤ 10 := by have := HB.out; omega
            by_cases hjl : j < n % 10
            · have k3 := C1.k3
              have f3 := C1.fr 3
              obtain ⟨c, hc⟩ := wrap_u8 (x / 2 ^ min (IntKind.u64.wrap (j : Int)).toNat 64)
              have LT := B1.size
              have LT1 := C1.lt
              have LB := World.block_lt_of_cell? wo _ hcx
              have NE1 : some wo.heap.size ≠ (Value.slice ab kb cb).ownBlock := fun e => by have := (hown.lt _ e.symm).1; omega
              have NE2 : some b2 ≠ (Value.slice ab kb cb).ownBlock := fun e => by have := (hown.lt _ e.symm).1; simp only at LB; omega
              go_wp2_with fail
              go_region_law ((refine step_app1 rfl _ _ (by rfl) Try.elB (wo.heap.size + 1) (.slice ab kb cb) _ _ (by rfl) (own_below hown ((((Below.refl _ wr).drew).alloc (Nat.le_refl _) _))) wr.heap.size (vB c) (by rfl) (Rv.one _ _ _) (by rfl) (by omega) (by simp; omega) ?_; intro v7 w7 hown7 hg7 hs7; obtain ⟨k7, a7, c7, rfl⟩ := own_shape hown7; have C7 := (C1.alloc _).kept (hg7.block wo.heap.size (by simp; omega) NE1); have f7 := C7.fr 3; have e7 := C7.k3))
              all_goals
                have B7 : Below wo.heap.size wo w7 := ((B1.alloc LT _).drew).grown hg7 (by simp; omega) (fun g e => by have := (hown.lt g e).1; omega)
                have B8 := B7.setCell (p := ⟨wo.heap.size, 3, none⟩) (Nat.le_refl _) (.slice a7 k7 c7)
                have C8 := C7.s3 (.slice a7 k7 c7)
                have hown8 := own_bstep hown7 ((BStep.refl wo.heap.size w7).set 3 (.slice a7 k7 c7)) (Nat.lt_succ_self _)
                go_wp2_with fail
                go_roundw
                case rel => exact ⟨j + 1, bs ++ [c], _, by go_num, by omega, snoc_hid HB _, by simpa using hown8, C8, (B8.cell (p := ⟨b2, off2 + i, none⟩) LB).trans hcx, B8⟩
                case measure => simp [intOf]; omega
            · have g0 := C1.k0
              have g1 := C1.k1
              have g2 := C1.k2
              have g3 := C1.k3
              have g4 := C1.k4
              have LT := B1.size
              go_wp2_with (at_builtin; refine wpList_app2 _ rfl _ _ rfl Try.elV w.heap.size u3 _ _ rfl (own_below hI.own (B1.alloc LT _)) (.slice (some ⟨wr.heap.size, 0, none⟩) 1 1) 1 [_, _, _, _, _] rfl (Rv.litH _ [_, _, _, _, _] _ 1 (by unfold maxLen; omega) _ rfl) (by simp) (by simp [Value.oneCell']) (by omega) (by have := hI.bl.size; simp; omega) ?_; intro ov' w6 hown6 hg6 hs6)
              have HV := Lib.hid (V.ok3 4 (by simp) bs (by omega))
              go_roundw
              case rel => exact ⟨i + 1, _, by go_num, by omega, by omega, snoc_len HM _, can_snoc HC HV.out.2, hI.step (m := ⟨4, 0, 0, bs, []⟩) (B1.alloc LT _) ⟨(Rv.of_own hown).below ((Below.refl _ wr).alloc (Nat.le_refl _) _), Rv.nil _, (fun g e => by have := (hown.lt g e).2; simp; omega), low_nil _⟩ (fun g e => e.elim (fun e => by have := (hown.lt g e).1; omega) (fun e => by cases e)) HV.out.1 hown6 hg6 hs6⟩
              case measure => simp [intOf]; omega
        · have C0 := Box5.new wr (.int .i64 5) (.int .u64 0) (.int .i64 0) (.slice none 0 0) (.slice none 0 0)
          have hcx2 := cell_later hcx (.cells #[.int .i64 5, .int .u64 0, .int .i64 0, .slice none 0 0, .slice none 0 0] 47)
          have B0 : Below wr.heap.size wr (wr.alloc (.cells #[.int .i64 5, .int .u64 0, .int .i64 0, .slice none 0 0, .slice none 0 0] 47)) := (Below.refl _ wr).alloc (Nat.le_refl _) _
          obtain ⟨wo, hwo⟩ : ∃ wo : World, wo = wr := ⟨_, rfl⟩
          rw [← hwo] at C0 hcx2 B0 hcx hI
          subst hwo
          go_wp2_with fail
          go_loopw [9] (fun jv wi => ∃ (j : Nat) (bs : List Int) (vb : Value), jv = .int .i64 (j : Int) ∧ j ≤ n % 5 ∧ Hid (bs.length = j) ∧ wi.ownsRow (wo.heap.size + 1) 3 1 vb bs.length (bs.map (Value.int .i64)) ∧ Box5 wi wo.heap.size (.int .i64 5) (.int .u64 0) (.int .i64 0) (.slice none 0 0) vb ∧ wi.cell? ⟨b2, off2 + i, none⟩ = some (.int .i64 x) ∧ Below wo.heap.size wo wi ∧ Hid (∀ y ∈ bs, -9223372036854775808 ≤ y ∧ y ≤ 9223372036854775807)) (fun jv _ => n % 5 - (intOf jv).toNat)
          case atStart => exact ⟨0, [], _, rfl, Nat.zero_le _, rfl, World.ownsRow_nil _ _ _ _, C0, hcx2, B0, (fun y hy => by cases hy)⟩
          case round =>
            obtain ⟨j, bs, vb, rfl, hj, HB, hown, C1, hcx3, B1, HG⟩ := hrel
            obtain ⟨kb, ab, cb, rfl⟩ := own_shape hown
            have hbl : bs.length ≤ 5 := by have := HB.out; omega
            by_cases hjl : j < n % 5
            · have k3 := C1.k4
              have f3 := C1.fr 4
              obtain ⟨y, hy⟩ : ∃ y, x / 2 ^ min (IntKind.u64.wrap (IntKind.i64.wrap (13 * (j : Int)))).toNat 64 = y := ⟨_, rfl⟩
              have HY := Lib.hid (hy ▸ shr_i x _ H1.out H2.out : -9223372036854775808 ≤ y ∧ y ≤ 9223372036854775807)
              have LT := B1.size
              have LT1 := C1.lt
              have LB := World.block_lt_of_cell? wo _ hcx
              have NE1 : some wo.heap.size ≠ (Value.slice ab kb cb).ownBlock := fun e => by have := (hown.lt _ e.symm).1; omega
              have NE2 : some b2 ≠ (Value.slice ab kb cb).ownBlock := fun e => by have := (hown.lt _ e.symm).1; simp only at LB; omega
              go_wp2_with fail
              go_region_law ((refine step_app1 rfl _ _ (by rfl) Try.elI (wo.heap.size + 1) (.slice ab kb cb) _ _ (by rfl) (own_below hown ((((Below.refl _ wr).drew).alloc (Nat.le_refl _) _))) wr.heap.size (.int .i64 y) (by rfl) (Rv.one _ _ _) (by rfl) (by omega) (by simp; omega) ?_; intro v7 w7 hown7 hg7 hs7; obtain ⟨k7, a7, c7, rfl⟩ := own_shape hown7; have C7 := (C1.alloc _).kept (hg7.block wo.heap.size (by simp; omega) NE1); have f7 := C7.fr 4; have e7 := C7.k4))
              all_goals
                have B7 : Below wo.heap.size wo w7 := ((B1.alloc LT _).drew).grown hg7 (by simp; omega) (fun g e => by have := (hown.lt g e).1; omega)
                have B8 := B7.setCell (p := ⟨wo.heap.size, 4, none⟩) (Nat.le_refl _) (.slice a7 k7 c7)
                have C8 := C7.s4 (.slice a7 k7 c7)
                have hown8 := own_bstep hown7 ((BStep.refl wo.heap.size w7).set 4 (.slice a7 k7 c7)) (Nat.lt_succ_self _)
                go_wp2_with fail
                go_roundw
                case rel => exact ⟨j + 1, bs ++ [y], _, by go_num, by omega, snoc_hid HB _, by simpa using hown8, C8, (B8.cell (p := ⟨b2, off2 + i, none⟩) LB).trans hcx, B8, rng_snoc HG HY.out⟩
                case measure => simp [intOf]; omega
            · have g0 := C1.k0
              have g1 := C1.k1
              have g2 := C1.k2
              have g3 := C1.k3
              have g4 := C1.k4
              have LT := B1.size
              go_wp2_with (at_builtin; refine wpList_app2 _ rfl _ _ rfl Try.elV w.heap.size u3 _ _ rfl (own_below hI.own (B1.alloc LT _)) (.slice (some ⟨wr.heap.size, 0, none⟩) 1 1) 1 [_, _, _, _, _] rfl (Rv.litH _ [_, _, _, _, _] _ 1 (by unfold maxLen; omega) _ rfl) (by simp) (by simp [Value.oneCell']) (by omega) (by have := hI.bl.size; simp; omega) ?_; intro ov' w6 hown6 hg6 hs6)
              have HV := Lib.hid (V.ok5 bs (by omega) HG.out)
              go_roundw
              case rel => exact ⟨i + 1, _, by go_num, by omega, by omega, snoc_len HM _, can_snoc HC HV.out.2, hI.step (m := ⟨5, 0, 0, [], bs⟩) (B1.alloc LT _) ⟨Rv.nil _, (Rv.of_own hown).below ((Below.refl _ wr).alloc (Nat.le_refl _) _), low_nil _, (fun g e => by have := (hown.lt g e).2; simp; omega)⟩ (fun g e => e.elim (fun e => by cases e) (fun e => by have := (hown.lt g e).1; omega)) HV.out.1 hown6 hg6 hs6⟩
              case measure => simp [intOf]; omega
      · go_wp2_with fail
        go_ret
        exact ⟨u3, ms, rfl, hml, HC, hI⟩
    · go_wp2_with fail
      go_ret
      exact ⟨u3, ms, rfl, hml, HC, hI⟩

end Go.Proofs.Ytofgcoapbocneaa
