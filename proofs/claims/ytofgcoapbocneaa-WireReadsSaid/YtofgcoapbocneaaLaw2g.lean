/- law02: WireOne. -/
import Derived.Test.YtofgcoapbocneaaLaw2f
namespace Go.Proofs.Ytofgcoapbocneaa
open Go.RowKit

theorem own_bstep2 {w w' : World} {b base : Nat} {e : TypeId} {size : Nat} {v : Value} {n : Nat} {xs : List Value} (h : w.ownsRow base e size v n xs) (hs : BStep b w w') (hb : v.ownBlock ≠ some b) : w'.ownsRow base e size v n xs := by
  obtain ⟨hl, h | ⟨g, cap, cur, rfl, hb1, hg, hn, hc, hs', ht⟩⟩ := h
  · exact ⟨hl, .inl h⟩
  · exact ⟨hl, .inr ⟨g, cap, cur, rfl, hb1, (hs.block g (Array.getElem?_eq_some_iff.1 hg).1 (fun e => hb (by rw [← e]; rfl))).trans hg, hn, hc, hs', ht⟩⟩
/-- A list of values under way, beside a Reader in block b; nothing else that lay has changed. -/
structure VG (w wr : World) (b : Nat) (gv : Value) (got : VL) : Prop where
  own : wr.ownsRow w.heap.size 47 5 gv got.length (flatV got)
  el : ∀ p ∈ got, RvV wr wr.heap.size p.1 p.2.1 p.2.2 ∧ p.1.Ok
  fr : ∀ p ∈ got, ∀ g, (p.2.1.ownBlock = some g ∨ p.2.2.ownBlock = some g) → w.heap.size ≤ g ∧ gv.ownBlock ≠ some g
  bs : BStep b w wr
theorem VG.start (w : World) (b : Nat) : VG w w b (.slice none 0 0) [] :=
  ⟨World.ownsRow_nil _ _ _ _, (fun _ h => by cases h), (fun _ h => by cases h), BStep.refl b w⟩
theorem VG.bstep {w wr w' : World} {b : Nat} {gv : Value} {got : VL} (h : VG w wr b gv got) (hs : BStep b wr w') (hb : b < w.heap.size) : VG w w' b gv got :=
  ⟨own_bstep2 h.own hs (fun e => by have := (h.own.lt b e).1; omega), fun p hp => ⟨⟨(h.el p hp).1.b.bstep hs (fun e => by have := (h.fr p hp b (.inl e)).1; omega), (h.el p hp).1.l.bstep hs (fun e => by have := (h.fr p hp b (.inr e)).1; omega), fun g e => Nat.lt_of_lt_of_le ((h.el p hp).1.bl g e) hs.size, fun g e => Nat.lt_of_lt_of_le ((h.el p hp).1.ll g e) hs.size⟩, (h.el p hp).2⟩, h.fr, h.bs.trans hs⟩
theorem VG.later {w wr w' : World} {b : Nat} {gv : Value} {got : VL} (h : VG w wr b gv got) (hs : Below wr.heap.size wr w') : VG w w' b gv got :=
  ⟨own_below h.own hs, fun p hp => ⟨⟨(h.el p hp).1.b.below hs, (h.el p hp).1.l.below hs, fun g e => Nat.lt_of_lt_of_le ((h.el p hp).1.bl g e) hs.size, fun g e => Nat.lt_of_lt_of_le ((h.el p hp).1.ll g e) hs.size⟩, (h.el p hp).2⟩, h.fr, h.bs.trans (.of_below hs)⟩
theorem VG.rvs {w wr : World} {b : Nat} {gv : Value} {got : VL} (h : VG w wr b gv got) : RvVs wr wr.heap.size gv got :=
  ⟨Rv.of_own h.own, fun g e => (h.own.lt g e).2, h.el⟩
/-- A value was read and appended. -/
theorem VG.step {w wr w1 w5 w6 : World} {b : Nat} {gv gv' : Value} {got : VL} {m : V} {vb vl : Value} (h : VG w wr b gv got) (hs : BStep b wr w1) (hb : b < w.heap.size)
    (R : RvV w1 w1.heap.size m vb vl) (n1 : ∀ g, vb.ownBlock = some g → wr.heap.size ≤ g) (n2 : ∀ g, vl.ownBlock = some g → wr.heap.size ≤ g) (ok : m.Ok) (h5 : Below w1.heap.size w1 w5)
    (hown : w6.ownsRow w.heap.size 47 5 gv' (got.length + 1) (flatV got ++ [.int .i64 m.k, .int .u64 (m.u : Int), .int .i64 m.n, vb, vl])) (hg : w5.grownBy w6 gv.ownBlock) (hsn : SameOrNew w5 gv gv') :
    VG w w6 b gv' (got ++ [(m, vb, vl)]) ∧ Below w.heap.size w1 w6 := by
  have h1 := (h.bstep hs hb).later h5
  have hz := h.bs.size
  have hz1 := hs.size
  have hz5 := h5.size
  have hz6 := hg.size
  have hgv : ∀ g, gv.ownBlock = some g → w.heap.size ≤ g ∧ g < wr.heap.size := fun g e => h.own.lt g e
  have R5 := R.belowb h5
  have hB : Below w.heap.size w1 w6 := (h5.mono (by omega)).grown hg (by omega) (fun g e => (hgv g e).1)
  have far : ∀ {m : V} {vb vl : Value} {B : Nat}, B ≤ w5.heap.size → RvV w5 B m vb vl → (∀ g, (vb.ownBlock = some g ∨ vl.ownBlock = some g) → gv.ownBlock ≠ some g) → RvV w6 w6.heap.size m vb vl := fun hBl R hne =>
    ⟨R.b.far hg (fun g e => hne g (.inl e)) (fun g e => Nat.lt_of_lt_of_le (R.bl g e) hBl), R.l.far hg (fun g e => hne g (.inr e)) (fun g e => Nat.lt_of_lt_of_le (R.ll g e) hBl), fun g e => Nat.lt_of_lt_of_le (R.bl g e) (by omega), fun g e => Nat.lt_of_lt_of_le (R.ll g e) (by omega)⟩
  have nov : ∀ g, g < w5.heap.size → gv.ownBlock ≠ some g → gv'.ownBlock ≠ some g := fun g hlt hne e => by
    rcases hsn with hsn | hsn
    · exact hne (hsn ▸ e)
    · have := hsn g e; omega
  refine ⟨⟨by simpa [flatV] using hown, fun p hp => ?_, fun p hp g e => ?_, ?_⟩, hB⟩
  · rcases List.mem_append.1 hp with hp | hp
    · exact ⟨far (Nat.le_refl _) (h1.el p hp).1 (fun g e => (h1.fr p hp g e).2), (h1.el p hp).2⟩
    · rw [List.mem_singleton.1 hp]
      exact ⟨far hz5 R5 (fun g e e2 => by have := (hgv g e2).2; have : wr.heap.size ≤ g := e.elim (n1 g) (n2 g); omega), ok⟩
  · rcases List.mem_append.1 hp with hp | hp
    · have he := h1.fr p hp g e
      have hl : g < w5.heap.size := e.elim ((h1.el p hp).1.bl g) ((h1.el p hp).1.ll g)
      exact ⟨he.1, nov g hl he.2⟩
    · rw [List.mem_singleton.1 hp] at e
      have hge : wr.heap.size ≤ g := e.elim (n1 g) (n2 g)
      have hl : g < w1.heap.size := e.elim (R.bl g) (R.ll g)
      exact ⟨by omega, nov g (by omega) (fun e2 => by have := (hgv g e2).2; omega)⟩
  · have hb1 := (h.bs.trans hs)
    exact ⟨hB.os.trans hb1.os, hB.tape.trans hb1.tape, hB.output.trans hb1.output, by have := hB.size; omega, fun k hk hne => (hB.block k hk).trans (hb1.block k hk hne)⟩

/-- A read, its value's parts laid open. -/
theorem lread_got (b : Nat) (v : Value) (bs : List UInt8) (s : RS) (k : Int) (w : World) (hR : Rst w b v bs s) (hl : bs.length ≤ 90000) :
    Calls Try.prog 23 #[.pointer (some ⟨b, 0, none⟩), .int .i64 k] w (fun en w' => ∃ k' u' n' a1 c1 b' a2 c2 l', Hid ((rdV k s).1 = ⟨k', u', n', b', l'⟩) ∧ V.Ok ⟨k', u', n', b', l'⟩ ∧
      en = .returned (.agg #[.int .i64 k', .int .u64 ((u' : Nat) : Int), .int .i64 n', .slice a1 b'.length c1, .slice a2 l'.length c2]) ∧ Rst w' b v bs (rdV k s).2 ∧ BStep b w w' ∧ RvV w' w'.heap.size ⟨k', u', n', b', l'⟩ (.slice a1 b'.length c1) (.slice a2 l'.length c2) ∧
      (∀ g, (Value.slice a1 b'.length c1).ownBlock = some g → w.heap.size ≤ g) ∧ (∀ g, (Value.slice a2 l'.length c2).ownBlock = some g → w.heap.size ≤ g)) := by
  have hok := rdV_ok k s (Nat.le_trans hR.left (by omega))
  refine (lread_any b v bs s k w hR (by omega)).mono ?_
  rintro en w' ⟨vb, vl, rfl, T, S, R, n1, n2⟩
  generalize (rdV k s).1 = m at *
  obtain ⟨k', u', n', b', l'⟩ := m
  obtain ⟨a1, c1, hv1, _, _⟩ := R.b.opened
  obtain ⟨a2, c2, hv2, _, _⟩ := R.l.opened
  subst hv1 hv2
  exact ⟨k', u', n', a1, c1, b', a2, c2, l', rfl, hok, rfl, T, S, R, n1, n2⟩

theorem rdEnd_ne {s : RS} {w : World} {b : Nat} {v : Value} {bs : List UInt8} (h : Rst w b v bs s) (hs : s ≠ .ok []) : ((rdEnd s : Int) == 0) = false := by
  cases s with
  | error e => obtain ⟨_, he, _⟩ := h.bad_inv; simpa [rdEnd] using he
  | ok l =>
    cases l with
    | nil => exact absurd rfl hs
    | cons c cs => rfl
set_option maxRecDepth 20000 in
set_option maxHeartbeats 8000000 in
theorem law_WireOne (vr : Value) (raw : List UInt8) (v : Value) (xs : List Int) (at_ : Int) (c : UInt8) (vk : Value) (ks : List Int) (w : World) (hraw : Rv w vr raw.length (raw.map vB)) (hv : Rv w v xs.length (xs.map (Value.int .i64))) (hx : ∀ x ∈ xs, -9223372036854775808 ≤ x ∧ x ≤ 9223372036854775807)
    (hn : -9223372036854775808 ≤ at_ ∧ at_ ≤ 9223372036854775807) (hk : Rv w vk ks.length (ks.map (Value.int .i64))) (hkr : ∀ x ∈ ks, -9223372036854775808 ≤ x ∧ x ≤ 9223372036854775807) :
    Calls Try.prog 8 #[vr, v, .int .i64 at_, vB c, vk] w (RetT w) := by
  obtain ⟨ak, ck, rfl, hck, _⟩ := hk.opened
  have HN := Lib.hid hn
  have HK := Lib.hid hkr
  clear hn hkr
  unfold vB
  go_enter Try.func8, Try.ntmps8
  go_wp2_with fail
  refine (vals_any v xs w hv hx).mono ?_
  rintro e w1 ⟨ov, ms, rfl, hml, HC, hI⟩
  clear hv hx
  have R1 := hI.rvs
  have B1 := hI.bl
  have hln := encs_len2 ms HC.out
  have HLN : Hid ((encs ms).length ≤ 81000) := by show _ ≤ _; omega
  clear hI hln HC
  obtain ⟨ao, cap, rfl, hcap, _⟩ := R1.rv.opened
  go_wp2_with fail
  refine (encode_any _ ms w1 R1 (by omega)).mono ?_
  rintro e w2 ⟨d, rfl, M2⟩
  have R2 := R1.belowb M2.2
  have B2 := bel B1 M2.2
  have h12 := M2.2.size
  have own2 := M2.1
  rw [List.length_map] at own2
  generalize encs ms = E at *
  obtain ⟨ad, cd, rfl⟩ := M2.len
  rw [List.length_map] at own2
  clear M2
  by_cases hz0 : (0 : Int) < (E.length : Int)
  all_goals
    first
    | (have hz : 0 < E.length := by omega
       obtain ⟨g, cap2, hg, hcd, ⟨x0, _⟩, _, _, _⟩ := own_store own2 0 hz (.bool true)
       cases hg
       go_wp2_with fail
       refine (around_nat at_ E.length hz HN.out.1 HN.out.2 (by have := HLN.out; omega) _).mono ?_
       rintro e w3 ⟨k, hkk, _, rfl, rfl⟩
       obtain ⟨g', cap3, hg, _, ⟨x1, hx1⟩, hfx, own3, hgr⟩ := own_store own2 k hkk (vB c)
       cases hg
       have hge := (own2.lt g rfl).1
       have B3 : Below w1.heap.size w2 (w2.setCell ⟨g, k, none⟩ (vB c)) := (Below.refl _ _).setCell (p := ⟨g, k, none⟩) hge _
       rw [← List.map_set] at own3
       unfold vB at own3 B3
       generalize hT : E.set k c = T at own3
       have HT : Hid (T.length = E.length) := by show _ = _; rw [← hT, List.length_set]
       have hRT : Rv (w2.setCell ⟨g, k, none⟩ (Value.int .u8 (c.toNat : Int))) (.slice (some ⟨g, 0, none⟩) E.length cd) T.length (T.map vB) := by rw [HT.out]; exact Rv.of_own own3
       go_wp2_with fail
       generalize w2.setCell ⟨g, k, none⟩ (Value.int .u8 (c.toNat : Int)) = w3 at *
       clear hT own3 hgr hfx hx1)
    | (go_wp2_with fail
       obtain ⟨T, hT⟩ : ∃ T, T = E := ⟨_, rfl⟩
       obtain ⟨w3, hw3⟩ : ∃ w3, w3 = w2 := ⟨_, rfl⟩
       rw [← hw3]
       have B3 : Below w1.heap.size w2 w3 := by rw [hw3]; exact Below.refl _ _
       have HT : Hid (T.length = E.length) := by show _ = _; rw [hT]
       have hRT : Rv w3 (.slice ad E.length cd) T.length (T.map vB) := by rw [hT, hw3]; exact Rv.of_own own2
       clear hw3 hT)
  all_goals
    have HTL : Hid (T.length ≤ 81000) := by show _ ≤ _; rw [HT.out]; exact HLN.out
    have h23 := B3.size
    have B3w : Below w.heap.size w w3 := B2.trans (B3.mono B1.size)
    have R3 := R2.belowb B3
    have h13 : w1.heap.size ≤ w3.heap.size := by omega
    clear B1 B2 B3 R1 R2 own2 HLN HT hz0 h23 h12
    refine (read_any _ T w3 hRT (by have := HTL.out; omega)).mono ?_
    rintro e w4 ⟨b4, v4, rfl, hb4, _, T4, B4⟩
    have hl4 := T4.lt
    go_wp2_with fail
    go_loopw [14, 15] (fun gv iv wr => ∃ (i : Nat) (s : RS) (got : VL), iv = .int .i64 (i : Int) ∧ i ≤ ms.length ∧ Hid (got.length = i) ∧ GInv T s got ∧ Rst wr b4 v4 T s ∧ VG w4 wr b4 gv got) (fun _ iv _ => ms.length - (intOf iv).toNat)
    case atStart => exact ⟨0, _, [], rfl, Nat.zero_le _, rfl, GInv.start T, T4, VG.start w4 b4⟩
    case round =>
      obtain ⟨i, s, got, rfl, hi, HG, hGI, TR, hV⟩ := hrel
      have hgl : got.length ≤ 8 := by have := HG.out; omega
      have hBr := B4.trans (hV.bs.below _ hb4 hl4)
      by_cases hlt : i < ms.length
      · obtain ⟨b2, off2, cap4, hceq, hcap4, hb2, A⟩ := (R3.belowb (hBr.mono h13)).at5 hlt
        cases hceq
        generalize ms[i] = p at *
        obtain ⟨m, vb, vl⟩ := p
        simp only at A
        have a0 := A.k0
        go_wp2_with fail
        refine (lread_got b4 v4 T s m.k _ TR (by have := HTL.out; omega)).mono ?_
        rintro e w5 ⟨k', u', n', a1, c1, b', a2, c2, l', HQ, hok, rfl, T5, S5, R5, n1, n2⟩
        have V5 := hV.bstep S5 hl4
        have hGI' : GInv T (rdV m.k s).2 (got ++ [(⟨k', u', n', b', l'⟩, .slice a1 b'.length c1, .slice a2 l'.length c2)]) := by have := hGI.step m.k (.slice a1 b'.length c1) (.slice a2 l'.length c2); rwa [HQ.out] at this
        have h45 := V5.bs.size
        have HOK := Lib.hid hok
        clear a0 hGI hok A
        go_wp2_with (at_builtin; refine wpList_app2 _ rfl _ _ rfl Try.elV w4.heap.size u14 _ _ rfl (own_below V5.own ((Below.refl _ w5).alloc (Nat.le_refl _) _)) (.slice (some ⟨w5.heap.size, 0, none⟩) 1 1) 1 [_, _, _, _, _] rfl (Rv.litH _ [_, _, _, _, _] _ 1 (by unfold maxLen; omega) _ rfl) (by simp) (by simp [Value.oneCell']) (by omega) (by simp; omega) ?_; intro gv6 w6 hown6 hg6 hs6)
        obtain ⟨V6, B6⟩ := hV.step S5 hl4 R5 n1 n2 HOK.out ((Below.refl _ w5).alloc (Nat.le_refl _) _) hown6 hg6 hs6
        have T6 := T4.next T5 V5.bs B6
        go_roundw
        case rel => exact ⟨i + 1, _, _, by go_num, by omega, snoc_hid HG _, hGI', T6, V6⟩
        case measure => simp [intOf]; omega
      · have hB := B3w.trans (hBr.mono B3w.size)
        go_wp2_with fail
        refine (rend_any _ _ _ _ _ TR).mono ?_
        rintro e w5 ⟨rfl, n5, hw5⟩
        have B5r : Below wr.heap.size wr w5 := by rw [hw5]; exact belD (Below.refl _ _) _
        have B5 : Below w.heap.size w w5 := bel hB B5r
        clear hw5
        by_cases hs : s = .ok []
        all_goals
          first
          | (subst hs
             have HTE := hGI [] rfl
             rw [List.append_nil] at HTE
             have V5 := hV.later B5r
             simp only [rdEnd]
             go_wp2_with fail
             refine (encode_any _ got w5 V5.rvs (by omega)).mono ?_
             rintro e w6 ⟨d6, rfl, M6⟩
             have M6' := M6.rvB
             rw [← HTE] at M6'
             have HTE' := Lib.hid HTE
             clear HTE
             go_wp2_with fail
             refine (sameBytes_refl _ _ T _ M6' (hRT.below (bel (bel hBr B5r) M6.2))).mono ?_
             rintro e w7 ⟨rfl, n7, hw7⟩
             have B7 : Below w.heap.size w w7 := by rw [hw7]; exact belD (bel B5 M6.2) _
             clear hw7
             go_wp2_with fail)
          | (have hne := rdEnd_ne TR hs
             go_wp2_with fail
             obtain ⟨w7, hw7⟩ : ∃ w7, w7 = w5 := ⟨_, rfl⟩
             rw [← hw7]
             have B7 : Below w.heap.size w w7 := by rw [hw7]; exact B5
             clear hw7)
        all_goals
          clear hGI hV TR hBr hB B5r B5 hl4 hi HG
          refine (few_some vr raw 60 (by decide) w7 (hraw.below B7)).mono ?_
          rintro e w8 ⟨v8, F, _, hF, rfl, M8, R8⟩
          have B8 := bel B7 M8.2
          go_wp2_with fail
          refine (read_any v8 F w8 R8 (by omega)).mono ?_
          rintro e w9 ⟨b9, v9, rfl, hb9, _, T9, B9⟩
          have hl9 := T9.lt
          clear M8
          go_wp2_with fail
          go_loopw [14, 17] (fun gv iv wr => ∃ (i : Nat) (s : RS) (got : VL), iv = .int .i64 (i : Int) ∧ i ≤ ks.length ∧ i ≤ 10 ∧ Hid (got.length = i) ∧ GInv F s got ∧ Rst wr b9 v9 F s ∧ VG w9 wr b9 gv got) (fun _ iv _ => 10 - (intOf iv).toNat)
          case atStart => exact ⟨0, _, [], rfl, Nat.zero_le _, Nat.zero_le _, rfl, GInv.start F, T9, VG.start w9 b9⟩
          case round =>
            obtain ⟨i, s, got, rfl, hi, hi10, HG, hGI, TR, hV⟩ := hrel
            have hgl : got.length ≤ 10 := by have := HG.out; omega
            have hBr := B9.trans (hV.bs.below _ hb9 hl9)
            by_cases hs : s = .ok []
            · subst hs
              have HTE : Hid (F = encs got) := by have := hGI [] rfl; rw [List.append_nil] at this; exact this
              have hE := rend_any _ _ _ _ _ TR
              simp only [rdEnd] at hE
              have hB := B8.trans (hBr.mono B8.size)
              have h3 : (i < ks.length ∧ i < 10) ∨ (i < ks.length ∧ ¬ i < 10) ∨ ¬ i < ks.length := by omega
              rcases h3 with ⟨ha, hb⟩ | ⟨ha, hb⟩ | ha
              all_goals
                first
                | (have hab : i < ks.length ∧ i < 10 := ⟨ha, hb⟩
                   go_wp2_with fail
                   refine hE.mono ?_
                   rintro e w10 ⟨rfl, n10, hw10⟩
                   have T10 : Rst w10 b9 v9 F (.ok []) := by rw [hw10]; exact TR.later (belD (Below.refl _ _) _)
                   have V10 : VG w9 w10 b9 u14 got := by rw [hw10]; exact hV.later (belD (Below.refl _ _) _)
                   have Br10 : Below w8.heap.size w8 w10 := by rw [hw10]; exact belD hBr _
                   clear hw10
                   go_wp2_with fail)
                | (go_wp2_with fail
                   obtain ⟨w10, hw10⟩ : ∃ w10, w10 = wr := ⟨_, rfl⟩
                   rw [← hw10]
                   have T10 : Rst w10 b9 v9 F (.ok []) := by rw [hw10]; exact TR
                   have V10 : VG w9 w10 b9 u14 got := by rw [hw10]; exact hV
                   have Br10 : Below w8.heap.size w8 w10 := by rw [hw10]; exact hBr
                   clear hw10)
              all_goals
                clear hE hV TR hBr hB
                have hE := rend_any _ _ _ _ _ T10
                simp only [rdEnd] at hE
                refine hE.mono ?_
                rintro e w11 ⟨rfl, n11, hw11⟩
                have B11 : Below w10.heap.size w10 w11 := by rw [hw11]; exact belD (Below.refl _ _) _
                have V11 := V10.later B11
                have Br11 := bel Br10 B11
                clear hw11 hE T10 V10 B11
                go_wp2_with fail
                refine (encode_any _ got w11 V11.rvs (by omega)).mono ?_
                rintro e w12 ⟨d12, rfl, M12⟩
                have M12' := M12.rvB
                rw [← HTE.out] at M12'
                have Br12 := bel Br11 M12.2
                clear M12
                go_wp2_with fail
                refine (sameBytes_refl _ _ F _ M12' (R8.below Br12)).mono ?_
                rintro e w13 ⟨rfl, n13, hw13⟩
                have B13 : Below w.heap.size w w13 := by rw [hw13]; exact belD (bel B8 Br12) _
                clear hw13
                go_wp2_with fail
                refine (lives_any _).mono ?_
                rintro e w14 ⟨rfl, B14⟩
                go_wp2_with fail
                go_ret
                exact ⟨rfl, bel B13 B14⟩
            · have hne := rdEnd_ne TR hs
              have hne' : ((rdEnd s : Int) != 0) = true := by rw [bne, hne]; rfl
              have hE := rend_any _ _ _ _ _ TR
              generalize hrr : rdEnd s = rr at hne hne' hE
              clear hrr
              by_cases hlt : i < ks.length ∧ i < 10
              · obtain ⟨hlt, h10⟩ := hlt
                obtain ⟨b3, off3, rfl, hcx⟩ := (((hk.below B8).below hBr).rd).cell (i := i) (u := .int .i64 ks[i]) (by simp [hlt])
                have HX := Lib.hid (HK.out ks[i] (List.getElem_mem hlt))
                generalize ks[i] = x at *
                go_wp2_with fail
                refine hE.mono ?_
                rintro e w10 ⟨rfl, n10, hw10⟩
                have T10 : Rst w10 b9 v9 F s := by rw [hw10]; exact TR.later (belD (Below.refl _ _) _)
                have V10 : VG w9 w10 b9 u14 got := by rw [hw10]; exact hV.later (belD (Below.refl _ _) _)
                have hcx10 : w10.cell? ⟨b3, off3 + i, none⟩ = some (.int .i64 x) := by rw [hw10]; exact hcx
                clear hw10 hcx hE hV TR hBr
                go_wp2_with fail
                refine (around_nat x 6 (by decide) HX.out.1 HX.out.2 (by decide) _).mono ?_
                rintro e w11 ⟨k6, hk6, _, rfl, rfl⟩
                go_wp2_with fail
                refine (lread_got b9 v9 F s k6 _ T10 (by omega)).mono ?_
                rintro e w12 ⟨k', u', n', a1, c1, b', a2, c2, l', HQ, hok, rfl, T12, S12, R12, n1, n2⟩
                have V12 := V10.bstep S12 hl9
                have hGI' : GInv F (rdV k6 s).2 (got ++ [(⟨k', u', n', b', l'⟩, .slice a1 b'.length c1, .slice a2 l'.length c2)]) := by have := hGI.step k6 (.slice a1 b'.length c1) (.slice a2 l'.length c2); rwa [HQ.out] at this
                have h45 := V12.bs.size
                have HOK := Lib.hid hok
                clear hcx10 hGI hok
                go_wp2_with (at_builtin; refine wpList_app2 _ rfl _ _ rfl Try.elV w9.heap.size u14 _ _ rfl (own_below V12.own ((Below.refl _ w12).alloc (Nat.le_refl _) _)) (.slice (some ⟨w12.heap.size, 0, none⟩) 1 1) 1 [_, _, _, _, _] rfl (Rv.litH _ [_, _, _, _, _] _ 1 (by unfold maxLen; omega) _ rfl) (by simp) (by simp [Value.oneCell']) (by omega) (by simp; omega) ?_; intro gv6 w6 hown6 hg6 hs6)
                obtain ⟨V6, B6⟩ := V10.step S12 hl9 R12 n1 n2 HOK.out ((Below.refl _ w12).alloc (Nat.le_refl _) _) hown6 hg6 hs6
                have T6 := T9.next T12 V12.bs B6
                go_roundw
                case rel => exact ⟨i + 1, _, _, by go_num, by omega, by omega, snoc_hid HG _, hGI', T6, V6⟩
                case measure => simp [intOf]; omega
              · have hB := B8.trans (hBr.mono B8.size)
                have h3 : (i < ks.length ∧ ¬ i < 10) ∨ ¬ i < ks.length := by omega
                rcases h3 with ⟨ha, hb⟩ | ha
                all_goals
                  go_wp2_with fail
                  refine hE.mono ?_
                  rintro e w11 ⟨rfl, n11, hw11⟩
                  have B11 : Below w.heap.size w w11 := by rw [hw11]; exact belD hB _
                  clear hw11
                  go_wp2_with fail
                  refine (lives_any _).mono ?_
                  rintro e w14 ⟨rfl, B14⟩
                  go_wp2_with fail
                  go_ret
                  exact ⟨rfl, bel B11 B14⟩
end Go.Proofs.Ytofgcoapbocneaa
