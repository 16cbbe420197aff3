/- law31: the examples hold. -/
import Derived.Test.YtpehnggglolnoaaJrnI
namespace Go.Proofs.Ytpehnggglolnoaa
open Go.RowKit

/-- The call returns true, and nothing that lay has changed. -/
def RetT (w : World) (en : Ending) (w' : World) : Prop := en = .returned (.bool true) ∧ Below w.heap.size w w'

section
variable {P : Program} (w : World)
/-- An append behind which the slice that was appended to reads as it did. -/
theorem run_append_rd3 (base : Nat) (t ty e : TypeId) (i : TypeInfo) (z : Value) (size bytes : Nat) (ht : P.underlying t = some (.slice e)) (hi : P.info? e = some i) (hz : i.zero = some z)
    (hsize : i.size = size) (hby : i.bytes = bytes) (hzs : z.cells.size = size) (hsz : 0 < size)
    (v : Value) (n : Nat) (xs : List Value) (hown : w.ownsRow base e size v n xs)
    (y : Value) (m : Nat) (news : List Value) (hy : Rv w y m news) (hl : news.length = m * size) (h1 : ∀ u ∈ news, u.oneCell' = true)
    (h63 : n + m ≤ maxLen) (hbytes : (n + m) * bytes ≤ 140737488355328) (hbase : base ≤ w.heap.size) :
    ∃ v' w', (Builtin.append_ #[t, t] ty #[v, y]).run P w = .ok v' w' ∧ w'.ownsRow base e size v' (n + m) (xs ++ news) ∧ w.grownBy w' v.ownBlock ∧ SameOrNew w v v' ∧ Rv w' v n xs := by
  have hv0 := Rv.of_own hown
  obtain ⟨ao, cap, rfl, hmc, hcm, hnone, hrd⟩ := hy
  rcases ao with _ | a
  · have hc0 := hnone rfl
    have hm0 : m = 0 := by omega
    subst hc0; subst hm0
    have hn : news = [] := List.eq_nil_of_length_eq_zero (by simpa using hl)
    subst hn
    exact ⟨v, w, run_append_owned_none w base t ty e i size ht hi v n xs hown, by simpa using hown, World.grownBy.refl _ _, .inl rfl, hv0⟩
  · have hnews : ∀ j u, news[j]? = some u → w.cell? (a.add j) = some u := by
      intro j u hj
      obtain ⟨b, off, ha, hc⟩ := hrd.cell hj
      obtain rfl : a = ⟨b, off, none⟩ := by simpa using ha
      rw [show ((⟨b, off, none⟩ : Addr).add j) = ⟨b, off + j, none⟩ from by unfold Addr.add; split <;> simp_all]
      exact hc
    have hown0 := hown
    rcases hown.2 with ⟨rfl, rfl⟩ | ⟨g, cap0, cur, rfl, hbg, hg, hnc, hcm0, hcs, htake⟩
    · have hx : xs = [] := List.eq_nil_of_length_eq_zero (by simpa using hown.1)
      subst hx
      obtain ⟨v', w', hr, h2, h3, _⟩ := run_append_own (P := P) w w.heap.size t ty e i z size bytes ht hi hz hsize hby hzs hsz (.slice none 0 0) 0 [] (World.ownsRow_nil w _ e size) a m cap news hl hnews h1 h63 hbytes (Nat.le_refl _)
      exact ⟨v', w', hr, own_base h2 hbase, h3, .inr fun g hg => (h2.lt g hg).1, Rv.nil _⟩
    · by_cases hroom : n + m ≤ cap0
      · obtain ⟨w', hr, h2, h3⟩ := run_append_fits (P := P) w base t ty e i size ht hi hsize g n cap0 xs hown0 a m cap news hl hnews h1 hroom
        refine ⟨_, w', hr, h2, h3, .inl rfl, ⟨_, _, rfl, hnc, hcm0, (fun h => by cases h), ?_⟩⟩
        have hrv := (Rv.of_own h2).rd
        rcases (hrv.take xs.length) with h | h
        · rw [List.take_left] at h; exact .inl h
        · rw [List.take_left] at h; exact .inr h
      · have holds : ∀ j u, xs[j]? = some u → w.cell? ((⟨g, 0, none⟩ : Addr).add j) = some u := hown0.cells (g := g) rfl
        obtain ⟨v', w', hr, h2, h3⟩ := run_append_arg_grows (P := P) w t ty e i z size bytes ht hi hz hsize hby hzs hsz ⟨g, 0, none⟩ n cap0 xs hown.1 holds a m cap news hl hnews (by omega) h63 hbytes
        exact ⟨v', w', hr, own_base h2 hbase, ⟨h3.os, h3.tape, h3.output, h3.size, fun k hk _ => h3.block k hk (by simp)⟩, .inr fun g hg => (h2.lt g hg).1, rv_grown hv0 h3 (.inl rfl)⟩

theorem wpList_app3 {ops : Array Oper} {rest : List Oper} {o : Oper} {a : Act} {Q : Exit → Act → World → Prop} (hgd : o.guard = none) (s x : Operand) {t e : TypeId} {z : Value} {size bytes : Nat}
    (ho : o.op = .call { callee := .builtin .append, args := #[s, x], argTypes := #[t, t] })
    (E : Elem P t e z size bytes) (base : Nat)
    (v : Value) (n : Nat) (xs : List Value) (hs : a.eval s = v) (hown : w.ownsRow base e size v n xs)
    (y : Value) (m : Nat) (news : List Value) (hx : a.eval x = y) (hy : Rv w y m news) (hl : news.length = m * size) (h1 : ∀ u ∈ news, u.oneCell' = true)
    (hbytes : (n + m) * bytes ≤ 140737488355328) (hbase : base ≤ w.heap.size)
    (h : ∀ v' w', w'.ownsRow base e size v' (n + m) (xs ++ news) → w.grownBy w' v.ownBlock → SameOrNew w v v' → Rv w' v n xs → wpList P ops Q rest (a.put o.dst v') w') : wpList P ops Q (o :: rest) a w := by
  obtain ⟨i, hi, hz, hsize, hby⟩ := info_parts E.info
  have hle : n + m ≤ (n + m) * bytes := Nat.le_mul_of_pos_right _ E.hby
  refine wpList_plain hgd fun K hK => ?_
  obtain ⟨v', w', hr, h2, h3, h4, h5⟩ := run_append_rd3 (P := P) w base t o.type e i z size bytes E.ht hi hz hsize hby E.hzs E.hsz v n xs hown y m news hy hl h1 (by unfold maxLen; omega) hbytes hbase
  unfold Oper.wp execOp
  simp only [ho, resolve, invoke, builtin, Sem.run_bind, Sem.run_pure, Result.andThen_ok, List.map_toArray, List.map_cons, List.map_nil, hs, hx, hr]
  exact hK _ _ (h v' w' h2 h3 h4 h5)
end

theorem LsB.one {w : World} {u : Value} {x : List UInt8} (hu : Rv w u x.length (x.map vB)) (H : Nat) (hH : w.heap.size = H) : LsB (w.alloc (.cells #[u] 49)) (.slice (some ⟨H, 0, none⟩) 1 1) [x] := by
  subst hH
  refine ⟨[u], Rv.lit w [u] 49 1 (by unfold maxLen; omega), rfl, fun i hi v hv => ?_⟩
  obtain rfl : i = 0 := by simp at hi; omega
  simp only [List.getElem?_cons_zero, Option.some.injEq] at hv
  subst hv
  exact hu.below ((Below.refl _ _).alloc (Nat.le_refl _) _)

theorem core7 : coreM 0 [7] = [0, 1, 7] := by decide +kernel
theorem scan7 : scanL (frameM 0 [7] ++ [3, 0, 1]) = ([[7]], (frameM 0 [7]).length) := by
  have h := scanJ_frames [[7]] 0 [3, 0, 1] (frameM 0 [7] ++ [3, 0, 1]).length (by simp [framesM]) (by simp) (by
    rw [frameM, core7, rawW]
    have := uvar_len (bytesB frameL [0, 1, 7]).toNat
    have := uvar_len ([0, 1, 7] : List UInt8).length
    simp only [List.length_append, List.length_cons, List.length_nil] at *
    omega)
  have e : framesM 0 [[7]] = frameM 0 [7] := by rw [framesM, framesM, List.append_nil]; rfl
  rw [e] at h
  rw [scanL, h]
  have h2 : scanJ ([3, 0, 1] : List UInt8).length (0 + [[(7 : UInt8)]].length) [3, 0, 1] = ([], 0) := by
    show scanJ 3 1 [3, 0, 1] = _
    have hf : firstJ ((1 : Nat) : Int) [3, 0, 1] = none := rfl
    rw [scanJ, hf]
  rw [h2]
  simp
theorem frame7 : frameM 0 [7] = rawW [0, 1, 7] ++ uvar (bytesB frameL [0, 1, 7]).toNat ∧ 5 ≤ (frameM 0 [7]).length ∧ (frameM 0 [7]).length ≤ 20 := by
  have h1 : frameM 0 [7] = rawW [0, 1, 7] ++ uvar (bytesB frameL [0, 1, 7]).toNat := by rw [frameM, core7]
  have h2 : (rawW ([0, 1, 7] : List UInt8)).length = 4 := rfl
  have h3 := uvar_pos (bytesB frameL [0, 1, 7]).toNat
  have h4 := uvar_len (bytesB frameL [0, 1, 7]).toNat
  refine ⟨h1, ?_, ?_⟩ <;> rw [h1, List.length_append, h2] <;> omega

set_option maxRecDepth 20000 in
set_option maxHeartbeats 4000000 in
theorem lives31_any (w : World) : Calls Try.prog 23 #[] w (RetT w) := by
  obtain ⟨F1, F2, F3⟩ := frame7
  have FS := scan7
  go_enter Try.func23, Try.ntmps23
  go_wp2_with fail
  have A0 := (Below.refl _ w).alloc (Nat.le_refl _) (.cells #[.int .u8 7] 5)
  refine (frame_any _ [7] 0 _ (Rv.lit w [.int .u8 7] 5 1 (by unfold maxLen; omega)) (by decide) (by decide)).mono ?_
  rintro e w1 ⟨v1, rfl, M1⟩
  have B1 := bel A0 M1.2
  have O1 := own_base M1.1 A0.size
  rw [List.length_map] at O1
  clear M1 A0
  have hF := fun v w1 h => hashF_any v [0, 1, 7] w1 h (by decide) _ rfl
  generalize bytesB frameL [0, 1, 7] = x at *
  have HX := x.isLt
  generalize frameM 0 [7] = F at *
  have HF := Lib.hid hF
  have HF1 := Lib.hid F1
  have HFS := Lib.hid FS
  clear hF F1 FS
  have C0 := (Below.refl _ w1).alloc (Nat.le_refl _) (.cells #[.slice none 0 0] 70)
  have C1 := C0.alloc C0.size (.cells #[.int .u8 0, .int .u8 1, .int .u8 7] 5)
  have K1 := (Wr.new w1).later ((Below.refl _ _).alloc (Nat.le_refl _) (.cells #[.int .u8 0, .int .u8 1, .int .u8 7] 5))
  have R1 : Rv ((w1.alloc (.cells #[.slice none 0 0] 70)).alloc (.cells #[.int .u8 0, .int .u8 1, .int .u8 7] 5)) (.slice (some ⟨w1.heap.size + 1, 0, none⟩) 3 3) ([0, 1, 7] : List UInt8).length (([0, 1, 7] : List UInt8).map vB) :=
    rv_litJ _ [.int .u8 0, .int .u8 1, .int .u8 7] _ 3 (by unfold maxLen; omega) _ (by simp)
  obtain ⟨k1, a1, c1, rfl⟩ := own_shape O1
  obtain rfl : k1 = F.length := own_k O1
  go_wp2_with fail
  refine (wraw_any _ _ _ _ [0, 1, 7] _ K1 R1 (fun w' v' S => R1.wnil S (by simp [Value.ownBlock])) (by decide)).mono ?_
  rintro e w2 ⟨v2, rfl, W2, S2⟩
  have C2 := S2.bel K1 C1 (Nat.le_refl _)
  rw [List.nil_append] at W2
  clear S2 K1 R1 C1 C0
  go_wp2_with fail
  have C2a := C2.alloc C2.size (.cells #[.int .u8 0, .int .u8 1, .int .u8 7] 5)
  have W2a := W2.later ((Below.refl _ _).alloc (Nat.le_refl _) (.cells #[.int .u8 0, .int .u8 1, .int .u8 7] 5))
  refine (HF.out _ _ (rv_litJ _ [.int .u8 0, .int .u8 1, .int .u8 7] _ 3 (by unfold maxLen; omega) _ rfl)).mono ?_
  rintro e w3 ⟨rfl, D3⟩
  have C3 := bel C2a D3
  have W3 := W2a.later D3
  clear HF W2 W2a C2 C2a D3
  go_wp2_with fail
  refine (wuint_any _ _ _ x.toNat _ W3 (by omega) (by decide)).mono ?_
  rintro e w4 ⟨v4, rfl, W4, S4⟩
  have C4 := S4.bel W3 C3 (by omega)
  rw [← HF1.out] at W4
  clear S4 W3 C3
  have B4 := bel B1 C4
  have O4 := own_below O1 C4
  have A5 := (Below.refl _ w4).alloc (Nat.le_refl _) (.cells #[.int .u8 3, .int .u8 0, .int .u8 1] 5)
  have W5 := W4.later A5
  have O5 := own_below O4 A5
  have B5 := bel B4 A5
  have hle := C4.size
  have hfl : ∀ g, (Value.slice a1 F.length c1).ownBlock = some g → g < w1.heap.size := fun g hg => (O1.lt g hg).2
  clear O1 C4 W4
  go_wp2_with (at_builtin; go_loud (refine wpList_app3 _ rfl _ _ rfl Try.elB w.heap.size (.slice a1 F.length c1) F.length (F.map vB) rfl O5 (.slice (some ⟨w4.heap.size, 0, none⟩) 3 3) 3 (([3, 0, 1] : List UInt8).map vB) rfl (rv_litJ _ (([3, 0, 1] : List UInt8).map vB) _ 3 (by unfold maxLen; omega) _ rfl) rfl (ones_B _) (by omega) B5.size ?_; intro v6 w6 O6 G6 N6 R6))
  have W6 := W5.far G6 (fun e => by have := hfl _ e; omega) (by
    rcases hq : (Value.slice a1 F.length c1).ownBlock with _ | g
    · exact .inl rfl
    · refine .inr fun e => ?_
      have h1 := hfl g hq
      have h2 := (W5.2.lt g e.symm).1
      omega)
  have B6 : Below w.heap.size w w6 := B5.grown G6 B5.size (fun g hg => (O5.lt g hg).1)
  have hv6 : Rv w6 v6 (F ++ [3, 0, 1]).length ((F ++ [3, 0, 1]).map vB) := by
    have := Rv.of_own O6
    rw [List.map_append, List.length_append]
    exact this
  have hS : Calls Try.prog 29 #[v6] w6 (fun e w' => ∃ v us, e = .returned (.tuple #[v, .int .i64 (F.length : Int)]) ∧ LsO w' w6.heap.size v us [[7]] ∧ Below w6.heap.size w6 w') := by
    have := scan_any v6 (F ++ [3, 0, 1]) w6 hv6 (by rw [List.length_append]; simp; omega)
    unfold ScanPost at this
    rw [HFS.out] at this
    exact this
  clear W5 O5 G6 N6 O6 hv6 A5 B5 B4 O4
  refine hS.mono ?_
  rintro e w7 ⟨v7, us7, rfl, L7, B7⟩
  have W7 := W6.later B7
  have R7 := R6.below B7
  have D7 := bel B6 B7
  obtain ⟨k7, a7, c7, rfl⟩ := own_shape L7.own
  clear hS W6 R6 B6 B7
  go_wp2_with fail
  refine (wdone_any _ _ _ _ W7 (by omega)).mono ?_
  rintro e w8 ⟨v8, rfl, M8⟩
  have D8 := bel D7 M8.2
  have R8 := R7.below M8.2
  have Q8 := M8.rv
  have L8 := L7.below M8.2
  rw [List.length_map] at Q8
  clear W7 R7 D7 L7 M8
  go_wp2_with fail
  refine (sameBytes_refl _ _ F _ R8 Q8).mono ?_
  rintro e w9 ⟨rfl, n9, h9⟩
  have D9 : Below w.heap.size w w9 := by rw [h9]; exact belD D8 n9
  have L9 : LsB w9 (.slice a7 k7 c7) [[7]] := by rw [h9]; exact L8.ls.drewN n9
  clear h9 L8 R8 Q8 D8
  have hF4 : (4 : Int) < (F.length : Int) := by omega
  have A10 := (Below.refl _ w9).alloc (Nat.le_refl _) (.cells #[.int .u8 7] 5)
  have R10 : Rv (w9.alloc (.cells #[.int .u8 7] 5)) (.slice (some ⟨w9.heap.size, 0, none⟩) 1 1) ([7] : List UInt8).length (([7] : List UInt8).map vB) := Rv.lit w9 [.int .u8 7] 5 1 (by unfold maxLen; omega)
  have A11 := A10.alloc A10.size (.cells #[.slice (some ⟨w9.heap.size, 0, none⟩) 1 1] 49)
  have L11 := LsB.one R10 (w9.heap.size + 1) (by simp)
  go_wp2_with fail
  refine (sameLists_refl _ _ [[7]] _ (L9.below A11) L11).mono ?_
  rintro e w12 ⟨rfl, n12, h12⟩
  have D12 : Below w.heap.size w w12 := by rw [h12]; exact belD (bel D9 A11) n12
  clear h12
  go_wp2_with fail
  go_ret
  exact ⟨rfl, D12⟩
end Go.Proofs.Ytpehnggglolnoaa
