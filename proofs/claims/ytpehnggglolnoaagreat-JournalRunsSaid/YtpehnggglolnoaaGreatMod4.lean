/- Several texts in one: Mod Mod2 Mod3 Mod4. -/
import Derived.Test.YtpehnggglolnoaaGreatRdI
import Derived.Test.YtpehnggglolnoaaGreatRefW
/- rexmillref02.Reader: the bytes that are left and the error. -/
namespace Go.Proofs.YtpehnggglolnoaaGreat
open Go.RowKit

/-- A model's Reader in block b: what is left lies in a row below D. -/
structure Mq (w : World) (b D : Nat) (v : Value) (l : List UInt8) (e : Int) : Prop where
  hp : w.heap[b]? = some (.cells #[v, .int .i64 e] 96 (0, 0))
  rv : Rv w v l.length (l.map vB)
  lo : Low D v
section
variable {w : World} {b D : Nat} {v : Value} {l : List UInt8} {e : Int}
theorem Mq.lt (h : Mq w b D v l e) : b < w.heap.size := (Array.getElem?_eq_some_iff.1 h.hp).1
theorem Mq.cell0 (h : Mq w b D v l e) : w.cell? ⟨b, 0, none⟩ = some v := by simp [World.cell?, h.hp]
theorem Mq.cell1 (h : Mq w b D v l e) : w.cell? ⟨b, 1, none⟩ = some (.int .i64 e) := by simp [World.cell?, h.hp]
theorem Mq.frozen (h : Mq w b D v l e) (j : Nat) : w.frozen? ⟨b, j, none⟩ = false := by simp [World.frozen?, h.hp]
theorem Mq.nb (h : Mq w b D v l e) (hD : D ≤ b) : v.ownBlock ≠ some b := fun e => by have := h.lo b e; omega
theorem Mq.set (h : Mq w b D v l e) (hD : D ≤ b) {v' : Value} {l' : List UInt8} (hr : Rv w v' l'.length (l'.map vB)) (hl : Low D v') : Mq (w.setCell ⟨b, 0, none⟩ v') b D v' l' e :=
  ⟨heap_set h.hp 0 v', hr.bstep ((BStep.refl b w).set 0 _) (fun e => by have := hl b e; omega), hl⟩
theorem Mq.err (h : Mq w b D v l e) (hD : D ≤ b) (e' : Int) : Mq (w.setCell ⟨b, 1, none⟩ (.int .i64 e')) b D v l e' :=
  ⟨heap_set h.hp 1 _, h.rv.bstep ((BStep.refl b w).set 1 _) (h.nb hD), h.lo⟩
theorem Mq.bstep {w' : World} {c : Nat} (h : Mq w b D v l e) (hs : BStep c w w') (hbc : b ≠ c) (hc : D ≤ c) : Mq w' b D v l e :=
  ⟨(hs.block b h.lt hbc).trans h.hp, h.rv.bstep hs (fun e => by have := h.lo c e; omega), h.lo⟩
theorem Mq.drewN (h : Mq w b D v l e) (n : Nat) : Mq (w.drewN n) b D v l e := ⟨h.hp, h.rv, h.lo⟩
theorem Mq.later {w' : World} (h : Mq w b D v l e) (hb : Below w.heap.size w w') : Mq w' b D v l e :=
  ⟨(hb.block b h.lt).trans h.hp, h.rv.below hb, h.lo⟩
end

inductive Mst (w : World) (b D : Nat) : RS → Prop
  | ok {v : Value} {l : List UInt8} (h : Mq w b D v l 0) : Mst w b D (.ok l)
  | bad {v : Value} {l : List UInt8} {e : Int} (he : e ≠ 0) (h : Mq w b D v l e) : Mst w b D (.error e)
theorem Mst.ok_inv {w : World} {b D : Nat} {l : List UInt8} (h : Mst w b D (.ok l)) : ∃ v, Mq w b D v l 0 := by
  cases h with
  | ok h => exact ⟨_, h⟩
theorem Mst.bad_inv {w : World} {b D : Nat} {e : Int} (h : Mst w b D (.error e)) : ∃ v l, e ≠ 0 ∧ Mq w b D v l e := by
  cases h with
  | bad he h => exact ⟨_, _, he, h⟩
theorem Mst.lt {w : World} {b D : Nat} {s : RS} (h : Mst w b D s) : b < w.heap.size := by
  cases h with
  | ok h => exact h.lt
  | bad he h => exact h.lt
theorem Mst.bstep {w w' : World} {b D c : Nat} {s : RS} (h : Mst w b D s) (hs : BStep c w w') (hbc : b ≠ c) (hc : D ≤ c) : Mst w' b D s := by
  cases h with
  | ok h => exact .ok (h.bstep hs hbc hc)
  | bad he h => exact .bad he (h.bstep hs hbc hc)
theorem Mst.later {w w' : World} {b D : Nat} {s : RS} (h : Mst w b D s) (hb : Below w.heap.size w w') : Mst w' b D s := by
  cases h with
  | ok h => exact .ok (h.later hb)
  | bad he h => exact .bad he (h.later hb)

def MPost (w : World) (b D : Nat) (s : RS) (x : Value) (en : Ending) (w' : World) : Prop := en = .returned x ∧ Mst w' b D s ∧ BStep b w w'

/-- What is left behind the first k bytes. -/
theorem Mq.cut {w : World} {b D : Nat} {ao : Option Addr} {n cap : Nat} {l : List UInt8} {e : Int} (h : Mq w b D (.slice ao n cap) l e) (k : Nat) (hk : k ≤ l.length) :
    n = l.length ∧ n ≤ cap ∧ Rv w (.slice (if cap = k then ao else ao.map (·.add k)) (l.length - k) (cap - k)) (l.drop k).length ((l.drop k).map vB) ∧ Low D (.slice (if cap = k then ao else ao.map (·.add k)) (l.length - k) (cap - k)) := by
  obtain ⟨a', c', h1, h2, h3⟩ := h.rv.sliced 1 k l.length hk (Nat.le_refl _)
  cases h1
  refine ⟨rfl, h2, ?_, fun g hg => h.lo g ?_⟩
  · rw [List.length_drop, List.map_drop]
    simp only [Nat.mul_one] at h3
    rw [show (List.drop k (l.map vB)).take (l.length - k) = List.drop k (l.map vB) from List.take_of_length_le (by simp)] at h3
    exact h3
  · cases ao with
    | none => by_cases hc : cap = k <;> simp [hc, Value.ownBlock] at hg
    | some p =>
      by_cases hc : cap = k
      · simpa [hc, Value.ownBlock] using hg
      · simp only [hc, if_false, Option.map_some] at hg
        have : (p.add k).block = p.block := by unfold Addr.add; split <;> rfl
        simpa [Value.ownBlock, this] using hg

theorem Mq.cutL {w : World} {b D g off : Nat} {n cap : Nat} {l : List UInt8} {e : Int} (h : Mq w b D (.slice (some ⟨g, off, none⟩) n cap) l e) (hD : D ≤ b) (k : Nat) (hk : k ≤ l.length) (off' : Nat) (ho : off' = if cap = k then off else off + k) (n' c' : Nat) (hn : n' = l.length - k) (hc' : c' = cap - k) :
    Mq (w.setCell ⟨b, 0, none⟩ (.slice (some ⟨g, off', none⟩) n' c')) b D (.slice (some ⟨g, off', none⟩) n' c') (l.drop k) e := by
  subst hn hc'
  obtain ⟨_, _, h1, h2⟩ := h.cut k hk
  have e1 : (if cap = k then some ⟨g, off, none⟩ else (some (⟨g, off, none⟩ : Addr)).map (·.add k)) = some ⟨g, off', none⟩ := by
    by_cases hc : cap = k
    · simp [hc, ho]
    · simp only [hc, if_false, ho, Option.map_some]
      unfold Addr.add
      split <;> simp_all
  rw [e1] at h1 h2
  exact h.set hD h1 h2

theorem mul_step (i n : Nat) (c : UInt8) (hi : i ≤ 9) (hn : n < 128 ^ i) (hc : i = 9 → c.toNat ≤ 1) :
    IntKind.u64.wrap ((n : Int) + IntKind.u64.wrap ((c.toNat : Int) % 128 * ((128 ^ i : Nat) : Int))) = ((n + 128 ^ i * (c.toNat % 128) : Nat) : Int) := by
  have hm := Nat.mod_lt c.toNat (y := 128) (by omega)
  have hb : n + 128 ^ i * (c.toNat % 128) < 18446744073709551616 := by
    have h0 : i = 0 ∨ i = 1 ∨ i = 2 ∨ i = 3 ∨ i = 4 ∨ i = 5 ∨ i = 6 ∨ i = 7 ∨ i = 8 ∨ i = 9 := by omega
    rcases h0 with rfl | rfl | rfl | rfl | rfl | rfl | rfl | rfl | rfl | rfl <;> simp only [Nat.reducePow] at hn ⊢ <;> first | omega | (have := hc rfl; omega)
  rw [IntKind.wrap_u64, IntKind.wrap_u64, show ((c.toNat : Int) % 128 * ((128 ^ i : Nat) : Int)) = ((128 ^ i * (c.toNat % 128) : Nat) : Int) from by rw [Nat.mul_comm]; rfl]
  generalize 128 ^ i * (c.toNat % 128) = x at *
  omega
theorem unit_step (i : Nat) (hi : i < 9) : IntKind.u64.wrap (((128 ^ i : Nat) : Int) * 128) = ((128 ^ (i + 1) : Nat) : Int) := by
  rw [IntKind.wrap_u64]
  have h0 : i = 0 ∨ i = 1 ∨ i = 2 ∨ i = 3 ∨ i = 4 ∨ i = 5 ∨ i = 6 ∨ i = 7 ∨ i = 8 := by omega
  rcases h0 with rfl | rfl | rfl | rfl | rfl | rfl | rfl | rfl | rfl <;> rfl
end Go.Proofs.YtpehnggglolnoaaGreat

/- rexmillref02.Reader.Uint. -/
namespace Go.Proofs.YtpehnggglolnoaaGreat
open Go.RowKit

set_option maxHeartbeats 2000000 in
set_option maxRecDepth 20000 in
theorem muint_any (b D : Nat) (hD : D ≤ b) (s : RS) (w : World) (h : Mst w b D s) :
    Calls Tryz.prog 78 #[.pointer (some ⟨b, 0, none⟩)] w (MPost w b D (rdU s).2 (.int .u64 ((rdU s).1 : Int))) := by
  cases s with
  | error e =>
    obtain ⟨v, l, he, h0⟩ := h.bad_inv
    have hc1 := h0.cell1
    have hne : (e == 0) = false := by simpa using he
    go_enter Tryz.func78, Tryz.ntmps78
    go_wp2
    go_loopw [3, 4, 5] (fun nv uv iv wr => nv = .int .u64 0 ∧ uv = .int .u64 1 ∧ iv = .int .i64 0 ∧ wr = w) (fun _ _ _ _ => 0)
    case atStart => exact ⟨rfl, rfl, rfl, rfl⟩
    case round =>
      obtain ⟨rfl, rfl, rfl, rfl⟩ := hrel
      go_wp2_with fail
      go_ret
      exact ⟨rfl, h, BStep.refl _ _⟩
  | ok l =>
    obtain ⟨v, h0⟩ := h.ok_inv
    have hlm := h0.rv.len
    unfold maxLen at hlm
    obtain ⟨ao, cap, hv, hcap, _⟩ := h0.rv.opened
    subst hv
    go_enter Tryz.func78, Tryz.ntmps78
    go_wp2
    go_loopw [3, 4, 5] (fun nv uv iv wr => ∃ (i n U : Nat), nv = .int .u64 (n : Int) ∧ uv = .int .u64 (U : Int) ∧ iv = .int .i64 (i : Int) ∧ i ≤ 9 ∧ i ≤ l.length ∧ Hid (U = 128 ^ i) ∧ Hid (n < 128 ^ i) ∧ Hid (uInv l i n (l.drop i)) ∧ Mq wr b D (.slice ao l.length cap) l 0 ∧ BStep b w wr) (fun _ _ iv _ => 10 - (intOf iv).toNat)
    case atStart =>
      exact ⟨0, 0, 1, rfl, rfl, rfl, by omega, by omega, rfl, (by show 0 < 128 ^ 0; decide), uInv_start _, h0, .refl _ _⟩
    case round =>
      obtain ⟨i, n, U, rfl, rfl, rfl, hi, hil, HUU, HN, HU, hq, hB⟩ := hrel
      have hc0 := hq.cell0
      have hc1 := hq.cell1
      have hf0 := hq.frozen 0
      have hf1 := hq.frozen 1
      by_cases hlt : i < l.length
      · have hdr : l.drop i = l[i] :: l.drop (i + 1) := List.drop_eq_getElem_cons hlt
        obtain ⟨g, off, rfl, hcx⟩ := hq.rv.rd.cell (i := i) (u := vB l[i]) (by simp [hlt])
        generalize l[i] = c at *
        rw [hdr] at HU
        unfold vB at hcx
        have HI := Lib.hid hi
        clear hi hdr
        by_cases hform : (i = 9 ∧ 1 < c.toNat) ∨ (0 < i ∧ c.toNat = 0)
        · have hpost := uInv_form HU.out hform
          have hE : ∀ w2, w2 = wr.setCell ⟨b, 1, none⟩ (.int .i64 2) → MPost w b D (rdU (.ok l)).2 (.int .u64 ((rdU (.ok l)).1 : Int)) (.returned (.int .u64 0)) w2 := by
            rintro w2 rfl
            rw [hpost]
            exact ⟨rfl, .bad (by decide) (hq.err hD 2), hB.set 1 _⟩
          have HE := Lib.hid hE
          clear hE hpost
          rcases hform with ⟨h9, hc⟩ | ⟨hp, hc⟩
          · have hb1 : ((i : Int) == 9) = true := beq_iff_eq.2 (by omega)
            have hb2 : decide (1 < (c.toNat : Int)) = true := decide_eq_true (by omega)
            have H1 := Lib.hid h9
            have H2 := Lib.hid hc
            clear h9 hc
            go_wp2_with fail
            go_ret
            exact HE.out _ rfl
          · have hb4 : ((c.toNat : Int) == 0) = true := beq_iff_eq.2 (by omega)
            have hb2 : decide (1 < (c.toNat : Int)) = false := decide_eq_false (by omega)
            have H2 := Lib.hid hc
            clear hc
            by_cases h9 : i = 9
            · have hb1 : ((i : Int) == 9) = true := beq_iff_eq.2 (by omega)
              have H1 := Lib.hid h9
              clear h9
              go_wp2_with fail
              go_ret
              exact HE.out _ rfl
            · have hb1 : ((i : Int) == 9) = false := beq_eq_false_iff_ne.2 (by omega)
              have H1 := Lib.hid h9
              clear h9
              go_wp2_with fail
              go_ret
              exact HE.out _ rfl
        · have hms := mul_step i n c HI.out HN.out (by have := HI.out; omega)
          rw [← HUU.out] at hms
          have HF := Lib.hid hform
          have hpos : ((i : Int) == 9) = true ∧ decide (1 < (c.toNat : Int)) = false ∧ 0 < i ∧ ((c.toNat : Int) == 0) = false ∨ ((i : Int) == 9) = false ∧ 0 < i ∧ ((c.toNat : Int) == 0) = false ∨ ((i : Int) == 9) = false ∧ ¬ 0 < i := by
            by_cases h9 : i = 9
            · exact .inl ⟨beq_iff_eq.2 (by omega), decide_eq_false (by omega), by omega, beq_eq_false_iff_ne.2 (by omega)⟩
            · by_cases hi0 : 0 < i
              · exact .inr (.inl ⟨beq_eq_false_iff_ne.2 (by omega), hi0, beq_eq_false_iff_ne.2 (by omega)⟩)
              · exact .inr (.inr ⟨beq_eq_false_iff_ne.2 (by omega), hi0⟩)
          clear hform
          by_cases hc : c.toNat < 128
          · have hd := uInv_done HU.out HF.out hc
            have hicap : (i : Int) + 1 ≤ (cap : Int) := by omega
            have hb5 : decide ((c.toNat : Int) < 128) = true := decide_eq_true (by omega)
            have H2 := Lib.hid hc
            clear hc
            have hle1 : (0 : Int) ≤ (i : Int) + 1 := by omega
            have hle2 : (i : Int) + 1 ≤ (l.length : Int) := by omega
            have HD := Lib.hid hd
            clear hd
            rw [← HUU.out] at *
            generalize n + U * (c.toNat % 128) = m at *
            rcases hpos with ⟨hb1, hb2, hp, hb4⟩ | ⟨hb1, hp, hb4⟩ | ⟨hb1, hp⟩
            all_goals
              go_wp2_with fail
              all_goals
                go_ret
                rw [HD.out]
                exact ⟨rfl, .ok (hq.cutL hD (i + 1) (by omega) _ (by first | rw [if_pos (by omega)] | rw [if_neg (by omega)]) _ _ (by omega) (by omega)), hB.set 0 _⟩
          · have hst := Lib.hid (uInv_step HU.out HF.out hc)
            have hlt1 := Lib.hid (step_lt i n c.toNat HN.out)
            have hb5 : decide ((c.toNat : Int) < 128) = false := decide_eq_false (by omega)
            have H2 := Lib.hid hc
            clear hc
            rw [← HUU.out] at hst hlt1
            generalize n + U * (c.toNat % 128) = m at *
            rcases hpos with ⟨hb1, hb2, hp, hb4⟩ | ⟨hb1, hp, hb4⟩ | ⟨hb1, hp⟩
            · have := of_decide_eq_false hb2
              have := H2.out
              omega
            all_goals
              have h10 : i + 1 ≤ 9 := by have := beq_eq_false_iff_ne.1 hb1; have := HI.out; omega
              have hus := unit_step i (by omega)
              rw [← HUU.out] at hus
              have HU2 : Hid (128 ^ (i + 1) = 128 ^ (i + 1)) := rfl
              generalize hU' : 128 ^ (i + 1) = U' at hus
              have HU' := Lib.hid hU'.symm
              have H10 := Lib.hid h10
              clear h10 hU'
              go_wp2_with fail
              go_roundw
              case rel => exact ⟨i + 1, m, U', rfl, rfl, by go_num, H10.out, by omega, HU', hlt1, hst.out, hq, hB⟩
              case measure => have := H10.out; simp [intOf]; omega
      · obtain rfl : i = l.length := by omega
        rw [List.drop_length] at HU
        have hpost := uInv_nil HU.out
        go_wp2_with fail
        go_ret
        rw [hpost]
        exact ⟨rfl, .bad (by decide) (hq.err hD 3), hB.set 1 _⟩
end Go.Proofs.YtpehnggglolnoaaGreat

/- rexmillref02.Reader: Int, Bool, length, End. -/
namespace Go.Proofs.YtpehnggglolnoaaGreat
open Go.RowKit

theorem mint_any (b D : Nat) (hD : D ≤ b) (s : RS) (w : World) (h : Mst w b D s) :
    Calls Tryz.prog 61 #[.pointer (some ⟨b, 0, none⟩)] w (MPost w b D (rdI s).2 (.int .i64 (rdI s).1)) := by
  have hb := rdU_bound s
  have HB := Lib.hid hb
  clear hb
  go_enter Tryz.func61, Tryz.ntmps61
  go_wp2_with fail
  refine (muint_any b D hD s w h).mono ?_
  rintro e w1 ⟨rfl, T1, S1⟩
  go_wp2_with fail
  refine (eback_any (rdU s).1 _ HB.out).mono ?_
  rintro e w2 ⟨rfl, rfl⟩
  go_wp2_with fail
  go_ret
  exact ⟨rfl, T1, S1⟩

end Go.Proofs.YtpehnggglolnoaaGreat

/- rexmillref02.Reader: length, Raw, Ints. -/
namespace Go.Proofs.YtpehnggglolnoaaGreat
open Go.RowKit

theorem rdL_cases (s : RS) : (∃ e, (rdU s).2 = .error e ∧ rdL s = (0, .error e)) ∨ (∃ r, (rdU s).2 = .ok r ∧ r.length < (rdU s).1 ∧ rdL s = (0, .error 3)) ∨
    (∃ r, (rdU s).2 = .ok r ∧ (rdU s).1 ≤ r.length ∧ rdL s = ((rdU s).1, .ok r)) := by
  rw [rdL]
  rcases hp : rdU s with ⟨n, e | r⟩
  · exact .inl ⟨e, rfl, rfl⟩
  · by_cases h : r.length < n
    · exact .inr (.inl ⟨r, rfl, h, by simp [h]⟩)
    · exact .inr (.inr ⟨r, rfl, by simpa using h, by simp [h]⟩)

set_option maxHeartbeats 1000000 in
set_option maxRecDepth 20000 in
theorem mlen_any (b D : Nat) (hD : D ≤ b) (s : RS) (w : World) (h : Mst w b D s) :
    Calls Tryz.prog 76 #[.pointer (some ⟨b, 0, none⟩)] w (MPost w b D (rdL s).2 (.int .i64 ((rdL s).1 : Int))) := by
  have hu := muint_any b D hD s w h
  have hcase := rdL_cases s
  have hbd := rdU_bound s
  generalize rdL s = q at *
  generalize rdU s = p at *
  obtain ⟨n, s'⟩ := p
  simp only at hcase hu hbd
  have HBD := Lib.hid hbd
  clear hbd
  rcases hcase with ⟨e, rfl, rfl⟩ | ⟨r, rfl, hn, rfl⟩ | ⟨r, rfl, hn, rfl⟩
  · go_enter Tryz.func76, Tryz.ntmps76
    go_wp2_with fail
    refine hu.mono ?_
    rintro en w1 ⟨rfl, T1, S1⟩
    obtain ⟨v, l, he, h0⟩ := T1.bad_inv
    have hc1 := h0.cell1
    have hne : (e == 0) = false := by simpa using he
    have hne2 : (e != 0) = true := by simpa using he
    go_wp2_with fail
    go_ret
    exact ⟨rfl, T1, S1⟩
  · go_enter Tryz.func76, Tryz.ntmps76
    go_wp2_with fail
    refine hu.mono ?_
    rintro en w1 ⟨rfl, T1, S1⟩
    obtain ⟨v, h0⟩ := T1.ok_inv
    have hlm := h0.rv.len
    unfold maxLen at hlm
    have hwr : IntKind.u64.wrap (r.length : Int) = (r.length : Int) := by rw [IntKind.wrap_u64]; omega
    obtain ⟨ao, cap, hv, hcap, _⟩ := h0.rv.opened
    subst hv
    have hc0 := h0.cell0
    have hc1 := h0.cell1
    have hf1 := h0.frozen 1
    have h1 := h0.err hD 3
    have e1 := h1.cell1
    have hd : decide ((r.length : Int) < (n : Int)) = true := decide_eq_true (by omega)
    have HN := Lib.hid hn
    clear hn hlm
    go_wp2_with fail
    go_ret
    exact ⟨rfl, .bad (by decide) h1, S1.set 1 _⟩
  · go_enter Tryz.func76, Tryz.ntmps76
    go_wp2_with fail
    refine hu.mono ?_
    rintro en w1 ⟨rfl, T1, S1⟩
    obtain ⟨v, h0⟩ := T1.ok_inv
    have hlm := h0.rv.len
    unfold maxLen at hlm
    have hwr : IntKind.u64.wrap (r.length : Int) = (r.length : Int) := by rw [IntKind.wrap_u64]; omega
    have hwi : IntKind.i64.wrap (n : Int) = (n : Int) := by rw [IntKind.wrap_i64]; omega
    obtain ⟨ao, cap, hv, hcap, _⟩ := h0.rv.opened
    subst hv
    have hc0 := h0.cell0
    have hc1 := h0.cell1
    have hd : decide ((r.length : Int) < (n : Int)) = false := decide_eq_false (by omega)
    have hnl : ¬ r.length < n := by omega
    clear hlm
    go_wp2_with fail
    go_ret
    exact ⟨rfl, T1, S1⟩

theorem Mq.cutA {w : World} {b D : Nat} {ao : Option Addr} {n cap : Nat} {l : List UInt8} {e : Int} (h : Mq w b D (.slice ao n cap) l e) (hD : D ≤ b) (k : Nat) (hk : k ≤ l.length) (A : Option Addr) (hA : A = if cap = k then ao else ao.map (·.add k)) (n' c' : Nat) (hn : n' = l.length - k) (hc' : c' = cap - k) :
    Mq (w.setCell ⟨b, 0, none⟩ (.slice A n' c')) b D (.slice A n' c') (l.drop k) e := by
  subst hn hc' hA
  obtain ⟨_, _, h1, h2⟩ := h.cut k hk
  exact h.set hD h1 h2

/-- The bytes read lie below D. -/
def MRaw (w : World) (b D : Nat) (q : List UInt8 × RS) (en : Ending) (w' : World) : Prop :=
  ∃ v', en = .returned v' ∧ Rv w' v' q.1.length (q.1.map vB) ∧ Low D v' ∧ Mst w' b D q.2 ∧ BStep b w w'

set_option maxHeartbeats 1000000 in
set_option maxRecDepth 20000 in
theorem mraw_any (b D : Nat) (hD : D ≤ b) (s : RS) (w : World) (h : Mst w b D s) :
    Calls Tryz.prog 60 #[.pointer (some ⟨b, 0, none⟩)] w (MRaw w b D (rdRaw s)) := by
  have hu := mlen_any b D hD s w h
  have hx : (∃ n r, rdL s = (n, .ok r) ∧ n ≤ r.length ∧ rdRaw s = (r.take n, .ok (r.drop n))) ∨ ∃ e, rdL s = (0, .error e) ∧ rdRaw s = ([], .error e) := by
    rcases rdL_cases s with ⟨e, _, h2⟩ | ⟨r, _, _, h2⟩ | ⟨r, _, h1, h2⟩
    · exact .inr ⟨e, h2, by rw [rdRaw, h2]⟩
    · exact .inr ⟨3, h2, by rw [rdRaw, h2]⟩
    · exact .inl ⟨_, r, h2, h1, by rw [rdRaw, h2]⟩
  rcases hx with ⟨n, r, hl, hn, hr⟩ | ⟨e, hl, hr⟩
  · rw [hl] at hu
    rw [hr]
    go_enter Tryz.func60, Tryz.ntmps60
    go_wp2_with fail
    refine hu.mono ?_
    rintro en w1 ⟨rfl, T1, S1⟩
    obtain ⟨v, h0⟩ := T1.ok_inv
    have hlm := h0.rv.len
    unfold maxLen at hlm
    obtain ⟨a', c', h1, _, h2⟩ := h0.rv.firsts n hn
    subst h1
    have hk := h2 n rfl
    obtain ⟨ao, cap, hv, hcap, _⟩ := h0.rv.opened
    cases hv
    have hc0 := h0.cell0
    have hc1 := h0.cell1
    have hf0 := h0.frozen 0
    have hn0 : (0 : Int) ≤ (n : Int) := by omega
    have hn1 : (n : Int) ≤ (r.length : Int) := by omega
    have hn2 : (n : Int) ≤ (c' : Int) := by omega
    clear hlm
    have hlo : Low D (.slice a' n c') := fun g e => h0.lo g (by cases a' <;> exact e)
    have htl : (r.take n).length = n := by rw [List.length_take]; omega
    have hk' : Rv w1 (.slice a' n c') (r.take n).length ((r.take n).map vB) := by rw [htl, List.map_take]; exact hk
    have HK := Lib.hid hk'
    clear htl hk hk'
    go_wp2_with fail
    all_goals
      try (have hcn : n = c' := by omega
           subst hcn)
      go_ret
      exact ⟨_, rfl, HK.out.bstep ((BStep.refl b w1).set 0 _) (fun e => by have := hlo b e; omega), hlo, .ok (h0.cutA hD n hn _ (by first | rw [if_pos (by omega)] | rw [if_neg (by omega)]) _ _ (by omega) (by omega)), S1.set 0 _⟩
  · rw [hl] at hu
    rw [hr]
    go_enter Tryz.func60, Tryz.ntmps60
    go_wp2_with fail
    refine hu.mono ?_
    rintro en w1 ⟨rfl, T1, S1⟩
    obtain ⟨v, l, he, h0⟩ := T1.bad_inv
    have hc1 := h0.cell1
    have hne : (e == 0) = false := by simpa using he
    have hne2 : (e != 0) = true := by simpa using he
    go_wp2_with fail
    go_ret
    exact ⟨_, rfl, Rv.nil _, low_nil _, T1, S1⟩
end Go.Proofs.YtpehnggglolnoaaGreat
