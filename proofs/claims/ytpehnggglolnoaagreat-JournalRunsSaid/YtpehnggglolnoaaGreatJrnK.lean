/- The model of package journal: first, Scan. -/
import Derived.Test.YtpehnggglolnoaaGreatJrnI
import Derived.Test.YtpehnggglolnoaaGreatJrnB
import Derived.Test.YtpehnggglolnoaaGreatMod4
namespace Go.Proofs.YtpehnggglolnoaaGreat
open Go.RowKit

theorem Mst.new {w : World} {v : Value} {l : List UInt8} {D : Nat} (hv : Rv w v l.length (l.map vB)) (hlow : Low D v) :
    Mst (w.alloc (.cells #[v, .int .i64 0] 96)) w.heap.size D (.ok l) :=
  .ok ⟨World.alloc_heap_new w _, hv.below ((Below.refl _ _).alloc (Nat.le_refl _) _), hlow⟩
def isOk : RS → Bool
  | .ok _ => true
  | .error _ => false
/-- The error field of a reader. -/
theorem Mst.flag {w : World} {b D : Nat} {s : RS} (h : Mst w b D s) : ∃ e : Int, w.cell? ⟨b, 1, none⟩ = some (.int .i64 e) ∧ (e == 0) = isOk s := by
  cases h with
  | ok h => exact ⟨0, h.cell1, rfl⟩
  | bad he h => exact ⟨_, h.cell1, beq_eq_false_iff_ne.2 he⟩
theorem Low.bstep {b c : Nat} {w w' : World} {v : Value} (h : Low b v) (hs : BStep c w w') (hb : b ≤ w.heap.size) : Low w'.heap.size v := h.mono (Nat.le_trans hb hs.size)

theorem firstJ_q {n : Int} {b core raw : List UInt8} {qs qu : RS} (h1 : rdRaw (.ok b) = (core, qs)) (h2 : rdRaw (rdI (.ok core)).2 = (raw, qu)) :
    firstJ n b = if isOk qs = true ∧ isOk qu = true ∧ (frameM n raw).isPrefixOf b = true then some raw else none := by
  unfold firstJ
  rw [h1]
  cases qs with
  | error e => simp [isOk]
  | ok r =>
    simp only [h2]
    cases qu with
    | error e => simp [isOk]
    | ok r2 => simp [isOk]
/-- What the model's first returns: the record lies in what was read. -/
def RFstPost (w : World) (D : Nat) (o : Option (List UInt8)) (en : Ending) (w' : World) : Prop :=
  Below w.heap.size w w' ∧ match o with
    | none => en = .returned (.tuple #[.slice none 0 0, .bool false])
    | some raw => ∃ rv, en = .returned (.tuple #[rv, .bool true]) ∧ Rv w' rv raw.length (raw.map vB) ∧ Low D rv ∧ rv.oneCell' = true

set_option maxRecDepth 20000 in
set_option maxHeartbeats 4000000 in
theorem rfirst_any (v : Value) (b : List UInt8) (n : Int) (w : World) (hv : Rv w v b.length (b.map vB)) (D : Nat) (hD : D ≤ w.heap.size) (hlow : Low D v) (hl : b.length ≤ 1000000000) (hn : -9223372036854775808 ≤ n ∧ n ≤ 9223372036854775807) :
    Calls Tryz.prog 47 #[.int .i64 n, v] w (RFstPost w D (firstJ n b)) := by
  have HN := Lib.hid hn
  clear hn
  obtain ⟨ao, cap, rfl, hcap, _⟩ := hv.opened
  have T0 := Mst.new hv hlow
  have hcl : (rdRaw (.ok b)).1.length ≤ b.length := by
    rcases rdRaw_cases (.ok b) with ⟨e', _, h1⟩ | ⟨r', _, _, h1⟩ | ⟨r', h0, h2, h1⟩
    · rw [h1]; exact Nat.zero_le _
    · rw [h1]; exact Nat.zero_le _
    · rw [h1]
      show (r'.take _).length ≤ _
      have h3 : rdU (.ok b) = ((rdU (.ok b)).1, .ok r') := by rw [← h0]
      have := congrArg List.length (rdU_inv b h3)
      rw [List.length_append] at this
      rw [List.length_take]
      omega
  go_enter Tryz.func47, Tryz.ntmps47
  go_wp2_with fail
  refine (mraw_any _ _ hD _ _ T0).mono ?_
  rintro e w1 ⟨v1, rfl, R1, L1, T1, S1⟩
  have hl0 : w.heap.size < (w.alloc (.cells #[.slice ao b.length cap, .int .i64 0] 96)).heap.size := by simp
  have B1 := (S1.below w.heap.size (Nat.le_refl _) hl0)
  have B1 : Below w.heap.size w w1 := ((Below.refl _ w).alloc (Nat.le_refl _) _).trans B1
  have hl1 := T1.lt
  clear T0 S1
  generalize hq1 : rdRaw (.ok b) = q at *
  obtain ⟨core, qs⟩ := q
  simp only at R1 T1 hcl
  have hrl := raw_le core
  have T2 := Mst.new R1 L1
  have hA := (Below.refl _ w1).alloc (Nat.le_refl _) (.cells #[v1, .int .i64 0] 96)
  have T1 := T1.later hA
  have B2 := bel B1 hA
  have hl2 := T2.lt
  obtain ⟨a1, c1, e1, _, _⟩ := R1.opened
  subst e1
  go_wp2_with fail
  refine (mint_any _ _ (Nat.le_trans hD B1.size) _ _ T2).mono ?_
  rintro e w3 ⟨rfl, T3, S3⟩
  have hl3 := T3.lt
  have T1 := T1.bstep S3 (by omega) (Nat.le_trans hD B1.size)
  have B3 := S3.bel B2 B1.size hl2
  generalize hq2 : rdI (.ok core) = q at *
  obtain ⟨qn, qt⟩ := q
  simp only at T3 hrl
  clear T2 S3
  go_wp2_with fail
  refine (mraw_any _ _ (Nat.le_trans hD B1.size) _ _ T3).mono ?_
  rintro e w4 ⟨v4, rfl, R4, L4, T4, S4⟩
  have T1 := T1.bstep S4 (by omega) (Nat.le_trans hD B1.size)
  have B4 := S4.bel B3 B1.size hl3
  clear T3 B3 hl3
  generalize hq3 : rdRaw qt = q at *
  obtain ⟨raw, qu⟩ := q
  simp only at R4 T4 hrl
  obtain ⟨a4, c4, e4, _, _⟩ := R4.opened
  subst e4
  have V4 := hv.below B4
  obtain ⟨f1, hf1, hz1⟩ := T1.flag
  obtain ⟨f2, hf2, hz2⟩ := T4.flag
  have HF1 := firstJ_q (n := n) hq1 (show rdRaw (rdI (.ok core)).2 = (raw, qu) by rw [hq2]; exact hq3)
  clear T1 T4 S4 B2 hl2 L1 R1 hq1 hq2 hq3
  cases qs with
  | error e1 =>
    rw [if_neg (by simp [isOk])] at HF1
    simp only [isOk] at hz1
    have hne : ¬ f1 = 0 := by simpa using hz1
    go_wp2_with fail
    go_ret2
    rw [HF1]
    exact ⟨B4, rfl⟩
  | ok r1 =>
    simp only [isOk] at hz1
    obtain rfl : f1 = 0 := by simpa using hz1
    cases qu with
    | error e2 =>
      rw [if_neg (by simp [isOk])] at HF1
      simp only [isOk] at hz2
      have hne : ¬ f2 = 0 := by simpa using hz2
      go_wp2_with fail
      go_ret2
      rw [HF1]
      exact ⟨B4, rfl⟩
    | ok r2 =>
      simp only [isOk, true_and] at hz2 HF1
      obtain rfl : f2 = 0 := by simpa using hz2
      have HF := Lib.hid HF1
      clear HF1
      go_wp2_with fail
      refine (rframe_any _ raw n _ R4 (by omega) HN.out).mono ?_
      rintro e w5 ⟨v5, rfl, M5⟩
      have C5 := bel B4 M5.2
      have V5 := V4.below M5.2
      have Q5 := R4.below M5.2
      have R5 := M5.rv
      rw [List.length_map] at R5
      obtain ⟨a5, c5, e5, _, _⟩ := R5.opened
      subst e5
      clear M5 B4 V4 R4 hf1 hf2
      have hm5 := R5.len
      unfold maxLen at hm5
      generalize frameM n raw = fr at *
      by_cases hle : fr.length ≤ b.length
      · obtain ⟨ab, cb, eb, hcb, H⟩ := V5.firsts fr.length hle
        cases eb
        have H2 := H _ rfl
        have hlt : (b.take fr.length).length = fr.length := by rw [List.length_take]; omega
        have hE := fun w1 (h : Rv w1 (.slice ao fr.length cap) fr.length ((b.map vB).take fr.length)) (h2 : Rv w1 (.slice a5 fr.length c5) fr.length (fr.map vB)) => sameBytes_any (.slice a5 fr.length c5) (.slice ao fr.length cap) fr (b.take fr.length) w1 h2 (by rw [hlt, List.map_take]; exact h)
        have hcc : (fr.length : Int) ≤ (cap : Int) := by omega
        have hcc1 : decide ((b.length : Int) < (fr.length : Int)) = false := decide_eq_false (by omega)
        have hsame : sameB fr (b.take fr.length) = fr.isPrefixOf b := by rw [← take_eq_prefix, sameB]; congr 1; exact propext ⟨fun h => h.symm, fun h => h.symm⟩
        rw [hsame] at hE
        have HE := Lib.hid hE
        clear hE H hsame
        go_wp2_with fail
        refine (HE.out _ H2 R5).mono ?_
        rintro e w6 ⟨rfl, n6, h6⟩
        have C6 : Below w.heap.size w w6 := by rw [h6]; exact belD C5 n6
        have Q6 : Rv w6 (.slice a4 raw.length c4) raw.length (raw.map vB) := by rw [h6]; exact Q5
        clear h6
        have HF1 := HF.out
        cases hpf : fr.isPrefixOf b
        · rw [hpf, if_neg (by decide)] at HF1
          go_wp2_with fail
          go_ret2
          rw [HF1]
          exact ⟨C6, rfl⟩
        · rw [hpf, if_pos rfl] at HF1
          go_wp2_with fail
          go_ret2
          rw [HF1]
          exact ⟨C6, (.slice a4 raw.length c4), rfl, Q6, L4, rfl⟩
      · have hcc1 : decide ((b.length : Int) < (fr.length : Int)) = true := decide_eq_true (by omega)
        have HF1 := HF.out
        have hpf : fr.isPrefixOf b = false := by
          rw [Bool.eq_false_iff]; exact fun h => hle (List.isPrefixOf_iff_prefix.1 h).length_le
        rw [hpf, if_neg (by decide)] at HF1
        go_wp2_with fail
        go_ret2
        rw [HF1]
        exact ⟨C5, rfl⟩

theorem scan_step {bs raw : List UInt8} {k p : Nat} (hf : firstJ (k : Int) (bs.drop p) = some raw) (hp : p ≤ bs.length) {m : Nat} (hm : (frameM (k : Int) raw).length = m) :
    p + m ≤ bs.length ∧ 1 ≤ m ∧ scanJ (bs.length - p) k (bs.drop p) = (raw :: (scanJ (bs.length - (p + m)) (k + 1) (bs.drop (p + m))).1, m + (scanJ (bs.length - (p + m)) (k + 1) (bs.drop (p + m))).2) := by
  have hpre := (firstJ_pre hf).length_le
  have hm1 := frameM_pos (k : Int) raw
  rw [List.length_drop, hm] at hpre
  rw [hm] at hm1
  refine ⟨by omega, hm1, ?_⟩
  obtain ⟨f, hfe⟩ : ∃ f, bs.length - p = f + 1 := ⟨bs.length - p - 1, by omega⟩
  rw [hfe, scanJ, hf]
  simp only [hm, List.drop_drop]
  rw [scanJ_fuel f (bs.length - (p + m)) (k + 1) (bs.drop (p + m)) (by rw [List.length_drop]; omega) (by rw [List.length_drop]; omega)]
theorem scan_end {bs : List UInt8} {k p : Nat} (hf : firstJ (k : Int) (bs.drop p) = none) : scanJ (bs.length - p) k (bs.drop p) = ([], 0) := by
  cases bs.length - p with
  | zero => rfl
  | succ f => rw [scanJ, hf]
theorem raw_in {n : Int} {b raw : List UInt8} (hf : firstJ n b = some raw) : raw.length ≤ b.length := by
  have := (firstJ_pre hf).length_le
  have := frameM_core n raw
  omega
theorem Rv.tail {w : World} {ao : Option Addr} {n cap : Nat} {us : List Value} (h : Rv w (.slice ao n cap) n us) (hu : us.length = n) (p : Nat) (hp : p ≤ n) :
    ∀ A m C, A = (if cap = p then ao else ao.map (·.add p)) → m = n - p → C = cap - p → Rv w (.slice A m C) (n - p) (us.drop p) := by
  intro A m C hA hm hC
  rw [hA, hm, hC]
  obtain ⟨a', c', e1, _, e3⟩ := h.sliced 1 p n hp (Nat.le_refl _)
  cases e1
  have ht : (us.drop p).take (n - p) = us.drop p := List.take_of_length_le (by rw [List.length_drop]; omega)
  simp only [Nat.mul_one] at e3
  rwa [ht] at e3
theorem Low.tail {D : Nat} {ao : Option Addr} {n cap : Nat} (h : Low D (.slice ao n cap)) (p : Nat) : ∀ A m C, A = (if cap = p then ao else ao.map (·.add p)) → Low D (.slice A m C) := by
  intro A m C hA g hg
  subst hA
  refine h g ?_
  cases ao with
  | none => split at hg <;> simp [Value.ownBlock] at hg
  | some a =>
    split at hg
    · exact hg
    · simp only [Option.map_some, Value.ownBlock, Option.some.injEq] at hg ⊢
      rw [← hg]
      unfold Addr.add
      split <;> rfl

set_option maxRecDepth 20000 in
set_option maxHeartbeats 4000000 in
theorem rscan_any (v : Value) (bs : List UInt8) (w : World) (hv : Rv w v bs.length (bs.map vB)) (hlow : Low w.heap.size v) (hl : bs.length ≤ 1000000000) :
    Calls Tryz.prog 26 #[v] w (ScanPost w bs) := by
  obtain ⟨ao, cap, rfl, hcap, _⟩ := hv.opened
  have hcm := hv.len
  go_enter Tryz.func26, Tryz.ntmps26
  go_wp2_with fail
  go_loopw [4, 5] (fun ov nv wr => ∃ (p : Nat) (us : List Value) (L : List (List UInt8)), nv = .int .i64 (p : Int) ∧ p ≤ bs.length ∧ L.length ≤ p ∧
    Hid (scanL bs = (L ++ (scanJ (bs.length - p) L.length (bs.drop p)).1, p + (scanJ (bs.length - p) L.length (bs.drop p)).2)) ∧ LsO wr w.heap.size ov us L ∧ Below w.heap.size w wr) (fun _ nv _ => bs.length + 1 - (intOf nv).toNat)
  case atStart => exact ⟨0, [], [], rfl, Nat.zero_le _, Nat.le_refl _, by show scanL bs = _; simp [scanL], LsO.nil _ _, Below.refl _ w⟩
  case round =>
    obtain ⟨p, us, L, rfl, hp, hLp, HS, hO, hB⟩ := hrel
    obtain ⟨kk, ak, ck, rfl⟩ := own_shape hO.own
    obtain rfl : kk = L.length := own_k hO.own
    have hsz := hB.size
    by_cases hlt : p < bs.length
    · have HV := Lib.hid ((hv.below hB).tail (by simp) p hp)
      have HW := Lib.hid (hlow.tail p)
      have hld : (bs.drop p).length = bs.length - p := List.length_drop
      have hne : ¬ cap = p := by omega
      have hpc : (p : Int) ≤ (cap : Int) := by omega
      have hf := fun v w1 D h1 h2 h3 => rfirst_any v (bs.drop p) (L.length : Int) w1 h1 D h2 h3 (by omega) (by omega)
      have HF := Lib.hid hf
      clear hf
      cases hfj : firstJ (L.length : Int) (bs.drop p) with
      | none =>
        rw [hfj] at HF
        have hS := HS.out
        rw [scan_end hfj, List.append_nil, Nat.add_zero] at hS
        have HS2 := Lib.hid hS
        clear hS HS hfj
        go_wp2_with fail
        refine (HF.out _ _ w.heap.size (by have := HV.out _ _ _ (if_neg hne).symm rfl rfl; rw [hld, List.map_drop]; exact this) hsz (HW.out _ _ _ (if_neg hne).symm)).mono ?_
        rintro e w2 ⟨B2, rfl⟩
        go_wp2_with fail
        go_ret2
        rw [ScanPost, HS2.out]
        exact ⟨_, us, rfl, hO.below B2, bel hB B2⟩
      | some raw =>
        rw [hfj] at HF
        obtain ⟨m, hm⟩ : ∃ m, (frameM (L.length : Int) raw).length = m := ⟨_, rfl⟩
        obtain ⟨hpm, hm1, hst⟩ := scan_step hfj hp hm
        have hri := raw_in hfj
        rw [hld] at hri
        have hS := HS.out
        rw [hst] at hS
        have HS2 : Hid (scanL bs = ((L ++ [raw]) ++ (scanJ (bs.length - (p + m)) (L.length + 1) (bs.drop (p + m))).1, (p + m) + (scanJ (bs.length - (p + m)) (L.length + 1) (bs.drop (p + m))).2)) := by
          show _ = _
          rw [hS]
          simp [Nat.add_assoc]
        have hpI : (p : Int) + (m : Int) ≤ 1000000000 := by omega
        clear hS HS hfj hst
        go_wp2_with fail
        refine (HF.out _ _ w.heap.size (by have := HV.out _ _ _ (if_neg hne).symm rfl rfl; rw [hld, List.map_drop]; exact this) hsz (HW.out _ _ _ (if_neg hne).symm)).mono ?_
        rintro e w2 ⟨B2, rv, rfl, R2, L2, o2⟩
        obtain ⟨a2, c2, rfl, _, _⟩ := R2.opened
        clear HF HV HW
        go_wp2_with fail
        refine (rframe_any _ raw (L.length : Int) _ R2 (by omega) (by omega)).mono ?_
        rintro e w3 ⟨v3, rfl, M3⟩
        have B3 := bel hB (bel B2 M3.2)
        have hO3 := (hO.below B2).below M3.2
        have R3 := R2.below M3.2
        have Q3 := M3.rv
        rw [List.length_map, hm] at Q3
        obtain ⟨a3, c3, rfl, _, _⟩ := Q3.opened
        have hA := (Below.refl _ w3).alloc (Nat.le_refl _) (.cells #[.slice a2 raw.length c2] 39)
        have hOA := hO3.below hA
        have RA := R3.below hA
        have hfar : ∀ g, (Value.slice a2 raw.length c2).ownBlock = some g → (Value.slice ak L.length ck).ownBlock ≠ some g := fun g hg hg2 => by
          have h1 := L2 g hg
          have h2 := (hO.own.lt g hg2).1
          omega
        have hbs := B3.size
        have hLl := hO3.own.1
        clear hO B2 R2 M3 Q3 hO3 R3
        go_wp2_with (at_builtin; refine wpList_app2 _ rfl _ _ rfl Tryz.elS w.heap.size (.slice ak L.length ck) L.length us rfl hOA.own (.slice (some ⟨w3.heap.size, 0, none⟩) 1 1) 1 [.slice a2 raw.length c2] rfl (rv_litH _ [_] _ 1 (by unfold maxLen; omega) _ (by simp)) rfl (ones1 _ rfl) (by omega) (by simp; omega) ?_; intro v5 w5 hown5 hg5 hs5)
        go_roundw
        case rel => exact ⟨p + m, us ++ [.slice a2 raw.length c2], L ++ [raw], by go_num, hpm, by rw [List.length_append, List.length_singleton]; omega, by rw [List.length_append, List.length_singleton]; exact HS2.out, hOA.app RA rfl (L2.mono (Nat.le_trans hbs hA.size)) hfar rfl rfl hown5 hg5 hs5, (B3.alloc hbs _).grown hg5 (by simp; omega) (fun g e => (hOA.own.lt g e).1)⟩
        case measure => simp [intOf]; omega
    · obtain rfl : p = bs.length := by omega
      have hS := HS.out
      rw [Nat.sub_self, scanJ, List.append_nil, Nat.add_zero] at hS
      go_wp2_with fail
      go_ret2
      rw [ScanPost, hS]
      exact ⟨_, us, rfl, hO, hB⟩
end Go.Proofs.YtpehnggglolnoaaGreat
