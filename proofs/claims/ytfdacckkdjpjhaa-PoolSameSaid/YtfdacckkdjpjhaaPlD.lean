/- Package pool: Revive, Die. -/
import Derived.Test.YtfdacckkdjpjhaaPlC
namespace Go.Proofs.Ytfdacckkdjpjhaa
open Go.RowKit

def Pl.revive (D : Pl) (x : Int) : Int × Pl :=
  if D.no x = true then (1, D) else match D.ws[x.toNat]? with
  | none => (1, D)
  | some v => if v.dead = true then (0, { D with ws := D.ws.set x.toNat { v with dead := false } }) else (20, D)
/-- The tasks when worker i, which is v, dies. -/
def Pl.lose (D : Pl) (i : Nat) (v : Wk) : Pl :=
  if v.has = true then match D.ts v.task with
    | none => D
    | some e => match e.tries.getLast? with
      | none => D
      | some t => if t.1 = (i : Int) then { D with ts := fun j => if j = v.task then some { e with lost := true } else D.ts j } else D
  else D
def Pl.die (D : Pl) (x t : Int) : Int × Pl :=
  if D.wrong x t ≠ 0 then (D.wrong x t, D) else match D.ws[x.toNat]? with
  | none => (1, D)
  | some v => if v.dead = true then (20, D) else (0, { D.lose x.toNat v with tick := t, ws := D.ws.set x.toNat ⟨true, false, v.task⟩ })
theorem yes_worker {D : Pl} {x : Int} (h : D.no x = false) : ∃ (i : Nat) (v : Wk), x = (i : Int) ∧ i < D.ws.length ∧ D.ws[i]? = some v := by
  have := of_decide_eq_false h
  refine ⟨x.toNat, D.ws[x.toNat]'(by omega), by omega, by omega, List.getElem?_eq_getElem _⟩
theorem wrong_ok {D : Pl} {x t : Int} (h : D.wrong x t = 0) : D.no x = false ∧ 0 ≤ t ∧ t ≤ 1099511627776 ∧ D.tick ≤ t := by
  unfold Pl.wrong at h
  split at h
  · cases h
  · rename_i h1
    split at h
    · cases h
    · rename_i h2
      refine ⟨by
        cases h3 : D.no x
        · rfl
        · exact absurd (.inl h3) h1, by omega, by omega, by omega⟩
theorem ok_worker {D : Pl} (h : POk D) {i : Nat} {v v' : Wk} (hv : D.ws[i]? = some v) (hh : v'.has = true → ∃ e, D.ts v'.task = some e ∧ e.tries ≠ []) : POk { D with ws := D.ws.set i v' } := by
  refine ⟨h.ord, h.mem, h.idr, h.many, h.tmo, h.tck, by show 1 ≤ (D.ws.set i v').length ∧ (D.ws.set i v').length ≤ 64; rw [List.length_set]; exact h.wsl, h.bod, fun k e hk t ht => ?_, fun j u hu hb => ?_⟩
  · have := h.tri k e hk t ht
    show (0 ≤ t.1 ∧ t.1 < ((D.ws.set i v').length : Int)) ∧ _
    rw [List.length_set]
    exact this
  · by_cases e : i = j
    · subst e
      have hi := (List.getElem?_eq_some_iff.1 hv).1
      change (D.ws.set i v')[i]? = some u at hu
      rw [List.getElem?_set_self hi] at hu
      cases hu
      exact hh hb
    · change (D.ws.set i v')[j]? = some u at hu
      rw [List.getElem?_set_ne e] at hu
      exact h.has j u hu hb
theorem ok_entry {D : Pl} (h : POk D) {k : Int} {e e' : En} (hk : D.ts k = some e) (ht : e'.tries = e.tries) (hb : e'.body.length ≤ 65536 ∧ e'.ans.body.length ≤ 65536) : POk { D with ts := fun j => if j = k then some e' else D.ts j } := by
  refine ⟨h.ord, fun j => ?_, h.idr, h.many, h.tmo, h.tck, h.wsl, fun j f hf => ?_, fun j f hf t htt => ?_, fun j u hu hh => ?_⟩
  · rw [h.mem j]
    show _ ↔ ∃ f, (if j = k then some e' else D.ts j) = some f
    by_cases q : j = k
    · subst q
      simp [hk]
    · simp [q]
  · change (if j = k then some e' else D.ts j) = some f at hf
    by_cases q : j = k
    · rw [if_pos q] at hf; cases hf; exact hb
    · rw [if_neg q] at hf; exact h.bod j f hf
  · change (if j = k then some e' else D.ts j) = some f at hf
    by_cases q : j = k
    · rw [if_pos q] at hf; cases hf; rw [ht] at htt; exact h.tri k e hk t htt
    · rw [if_neg q] at hf; exact h.tri j f hf t htt
  · obtain ⟨f, hf, hn⟩ := h.has j u hu hh
    by_cases q : u.task = k
    · refine ⟨e', by show (if u.task = k then some e' else D.ts u.task) = _; rw [if_pos q], ?_⟩
      rw [q, hk] at hf
      cases hf
      rw [ht]
      exact hn
    · exact ⟨f, by show (if u.task = k then some e' else D.ts u.task) = _; rw [if_neg q]; exact hf, hn⟩
section
variable {p : Nat} {X R : Nat → Prop} {D : Pl}
set_option maxRecDepth 10000 in
set_option maxHeartbeats 1000000 in
theorem revive_any (x : Int) (w : World) (h : PAt w p X R D) :
    Calls Try.prog 40 #[.pointer (some ⟨p, 0, none⟩), .int .i64 x] w fun e w' => e = .returned (.int .i64 (D.revive x).1) ∧ PAt w' p X R (D.revive x).2 ∧ DStep X X w w' := by
  obtain ⟨mb, wv, F, ks, B, TV, BV, AV, h⟩ := h
  have hno := no_any x w h
  obtain ⟨O, hO⟩ : ∃ O, D.revive x = O := ⟨_, rfl⟩
  rw [hO]
  unfold Pl.revive at hO
  obtain ⟨b, hb⟩ : ∃ b, D.no x = b := ⟨_, rfl⟩
  rw [hb] at hno hO
  have HO := Bx.mk hO
  have HN := Bx.mk hno
  have HH := Bx.mk h
  clear hO hno
  go_enter Try.func40, Try.ntmps40
  cases b
  · obtain ⟨i, v, rfl, hi, hv⟩ := yes_worker hb
    obtain ⟨g, c, hw, hc, k0, k1, k2⟩ := h.wk hv
    have c2 := h.c2
    rw [hw] at c2
    have hO := HO.out
    rw [if_neg (by simp), Int.toNat_natCast, hv] at hO
    simp only at hO
    have hcf : ∀ j, w.frozen? ⟨g, j, none⟩ = false := fun j => by
      have hr := h.row
      rw [hw] at hr
      exact hr.frozenAt j
    have HW := Bx.mk hw
    obtain ⟨n, hn⟩ : ∃ n, D.ws.length = n := ⟨_, rfl⟩
    rw [hn] at hi hc c2
    have HNL := Bx.mk hn
    have hi2 : (i : Int) < (n : Int) := by omega
    have HV := Bx.mk hv
    have fz := hcf (i * 3)
    clear h hw hcf hb hn hv
    cases hd : v.dead
    · rw [hd] at k0 hO
      rw [if_neg (by simp)] at hO
      go_wp2_with fail
      refine HN.out.mono ?_
      rintro e w1 ⟨rfl, rfl⟩
      go_wp2_with fail
      go_ret
      rw [← hO]
      exact ⟨rfl, ⟨_, _, _, _, _, _, _, _, HH.out⟩, DStep.refl _ _⟩
    · rw [hd] at k0 hO
      rw [if_pos rfl] at hO
      go_wp2_with fail
      refine HN.out.mono ?_
      rintro e w1 ⟨rfl, rfl⟩
      go_wp2_with fail
      go_ret
      rw [← hO]
      have hg : wv.ownBlock = some g := by rw [HW.out]; rfl
      refine ⟨rfl, ⟨_, _, _, _, _, _, _, _, HH.out.worker (j := 0) (v := v) (v' := { v with dead := false }) HW.out HV.out (by decide) rfl (ok_worker HH.out.ok HV.out (fun hh => HH.out.ok.has i v HV.out hh))⟩, (DStep.refl X _).set (.inl (HH.out.xw g hg)) _⟩
  · have hO := HO.out
    rw [if_pos rfl] at hO
    go_wp2_with fail
    refine HN.out.mono ?_
    rintro e w1 ⟨rfl, rfl⟩
    go_wp2_with fail
    go_ret
    rw [← hO]
    exact ⟨rfl, ⟨_, _, _, _, _, _, _, _, HH.out⟩, DStep.refl _ _⟩
theorem set_set {l : List Wk} {i : Nat} {a b : Wk} : (l.set i a).set i b = l.set i b := List.set_set ..
/-- The last stores of Die. -/
theorem die_end {w : World} {mb : Nat} {wv : Value} {F : Int → Option Value} {ks : List Int} {B : Int → Nat} {TV BV AV : Int → Value} (h : PX w p mb wv F ks B TV BV AV X R D) {g n c i : Nat} (hwv : wv = .slice (some ⟨g, 0, none⟩) n c) {v : Wk} (hv : D.ws[i]? = some v) {t : Int} (ht : D.tick ≤ t ∧ t ≤ 1099511627776) :
    PAt (((w.setCell ⟨p, 1, none⟩ (.int .i64 t)).setCell ⟨g, i * 3, none⟩ (.bool true)).setCell ⟨g, i * 3 + 1, none⟩ (.bool false)) p X R { D with tick := t, ws := D.ws.set i ⟨true, false, v.task⟩ } ∧
      DStep X X w (((w.setCell ⟨p, 1, none⟩ (.int .i64 t)).setCell ⟨g, i * 3, none⟩ (.bool true)).setCell ⟨g, i * 3 + 1, none⟩ (.bool false)) := by
  have hg : wv.ownBlock = some g := by rw [hwv]; rfl
  have hX := h.xw g hg
  have hi := (List.getElem?_eq_some_iff.1 hv).1
  have h1 := h.tick t ht
  have h2 := h1.worker (j := 0) (v := v) (v' := { v with dead := true }) hwv hv (by decide) rfl (ok_worker h1.ok hv (fun hh => h1.ok.has i v hv hh))
  have hv2 : (D.ws.set i { v with dead := true })[i]? = some { v with dead := true } := List.getElem?_set_self hi
  have h3 := h2.worker (j := 1) (v := { v with dead := true }) (v' := ⟨true, false, v.task⟩) hwv hv2 (by decide) rfl (ok_worker h2.ok hv2 (fun hh => by cases hh))
  simp only [List.set_set] at h3
  exact ⟨⟨_, _, _, _, _, _, _, _, h3⟩, (((DStep.refl X w).set (.inl h.xp) _).set (.inl hX) _).set (.inl hX) _⟩
set_option maxRecDepth 10000 in
set_option maxHeartbeats 1000000 in
theorem die_any (x t : Int) (w : World) (h : PAt w p X R D) :
    Calls Try.prog 38 #[.pointer (some ⟨p, 0, none⟩), .int .i64 x, .int .i64 t] w fun e w' => e = .returned (.int .i64 (D.die x t).1) ∧ PAt w' p X R (D.die x t).2 ∧ DStep X X w w' := by
  obtain ⟨mb, wv, F, ks, B, TV, BV, AV, h⟩ := h
  have hno := wrong_any x t w h
  obtain ⟨O, hO⟩ : ∃ O, D.die x t = O := ⟨_, rfl⟩
  rw [hO]
  unfold Pl.die at hO
  obtain ⟨b, hb⟩ : ∃ b, D.wrong x t = b := ⟨_, rfl⟩
  rw [hb] at hno hO
  have HO := Bx.mk hO
  have HN := Bx.mk hno
  have HH := Bx.mk h
  clear hO hno
  go_enter Try.func38, Try.ntmps38
  by_cases hb0 : b = 0
  · subst hb0
    obtain ⟨hn0, ht0, ht1, ht2⟩ := wrong_ok hb
    obtain ⟨i, v, rfl, hi, hv⟩ := yes_worker hn0
    obtain ⟨g, c, hw, hc, k0, k1, k2⟩ := h.wk hv
    have c2 := h.c2
    rw [hw] at c2
    have hO := HO.out
    rw [if_neg (by simp), Int.toNat_natCast, hv] at hO
    simp only at hO
    have HHO := Bx.mk (holds_any i v hv w h)
    have hcf : ∀ j, w.frozen? ⟨g, j, none⟩ = false := fun j => by
      have hr := h.row
      rw [hw] at hr
      exact hr.frozenAt j
    have hpf := h.fz 1
    have hpl := h.lt
    have hgl := h.xl g (h.xw g (by rw [hw]; rfl))
    have hpg : p ≠ g := kind_ne h.kp (h.kw (g := g) (by rw [hw]; rfl)) (by decide)
    have c1 := h.c1
    have HW := Bx.mk hw
    obtain ⟨n, hn⟩ : ∃ n, D.ws.length = n := ⟨_, rfl⟩
    rw [hn] at hi hc c2
    have HNL := Bx.mk hn
    have hi2 : (i : Int) < (n : Int) := by omega
    have HV := Bx.mk hv
    have HT := Bx.mk (And.intro ht2 ht1)
    clear h hw hb hn hv hn0
    cases hd : v.dead
    · rw [hd] at k0 hO
      rw [if_neg (by simp)] at hO
      have HO2 := Bx.mk hO
      clear hO HO
      go_wp2_with fail
      refine HN.out.mono ?_
      rintro e w1 ⟨rfl, rfl⟩
      go_wp2_with fail
      refine HHO.out.mono ?_
      rintro e w2 ⟨B2, hp⟩
      have H2 := HH.out.later B2
      have c1 := H2.c1
      have c2 := H2.c2
      obtain ⟨g', c', hw', _, k0, k1, _⟩ := H2.wk HV.out
      rw [HW.out] at hw'
      injection hw' with q1 q2 q3
      injection q1 with q4
      injection q4 with q5
      subst q5 q3
      rw [HW.out, HNL.out] at c2
      have S2 := DStep.ofBelow X B2
      have fzg : ∀ j, w2.frozen? ⟨g, j, none⟩ = false := fun j => by
        have hr := H2.row
        rw [HW.out] at hr
        exact hr.frozenAt j
      have fzp := H2.fz 1
      have fz0 := fzg (i * 3)
      have fz1 := fzg (i * 3 + 1)
      have HH2 := Bx.mk H2
      rcases hp with ⟨hh, rfl⟩ | ⟨hh, e, t1, he, hlast, rfl⟩
      · have hl : D.lose i v = D := by unfold Pl.lose; rw [hh, if_neg (by simp)]
        have hO := HO2.out
        rw [hl] at hO
        clear H2 hl HHO HN fzg
        go_wp2_with fail
        go_ret
        rw [← hO]
        obtain ⟨E1, E2⟩ := die_end HH2.out HW.out HV.out HT.out
        exact ⟨rfl, E1, S2.trans E2⟩
      · have hl : D.lose i v = if t1.1 = (i : Int) then { D with ts := fun j => if j = v.task then some { e with lost := true } else D.ts j } else D := by unfold Pl.lose; rw [hh, if_pos rfl, he]; simp only; rw [hlast]
        have hO := HO2.out
        rw [hl] at hO
        by_cases ht : t1.1 = (i : Int)
        · rw [if_pos ht] at hO
          have hbq : (t1.1 == (i : Int)) = true := by rw [beq_iff_eq]; exact ht
          rw [hbq]
          have e2 := H2.e he 2 _ rfl
          have f2 := H2.efz he 2
          have hbk := (H2.en _ _ he).2.1
          have hbp : B v.task ≠ p := kind_ne (H2.ke he) H2.kp (by decide)
          have hbg : B v.task ≠ g := kind_ne (H2.ke he) (H2.kw (g := g) (by rw [HW.out]; rfl)) (by decide)
          have hXb := (H2.en _ _ he).2.2
          have H3 := H2.entry (w' := w2.setCell ⟨B v.task, 2, none⟩ (.bool true)) (e' := { e with lost := true }) he rfl rfl rfl (by unfold enO at hbk ⊢; simp [World.setCell, Array.getElem?_modify, hbk]) (World.size_setCell _ _ _) (fun b hb => Below.heap_setCell _ _ _ _ hb) (ok_entry H2.ok he rfl (H2.ok.bod _ e he))
          have c13 := H3.c1
          have c23 := H3.c2
          rw [HW.out, HNL.out] at c23
          obtain ⟨g', c', hw', _, k03, k13, _⟩ := H3.wk HV.out
          rw [HW.out] at hw'
          injection hw' with q1 q2 q3
          injection q1 with q4
          injection q4 with q5
          subst q5 q3
          have fzp3 := H3.fz 1
          have fz3 : ∀ j, (w2.setCell ⟨B v.task, 2, none⟩ (.bool true)).frozen? ⟨g, j, none⟩ = false := fun j => by
            have hr := H3.row
            rw [HW.out] at hr
            exact hr.frozenAt j
          have fz30 := fz3 (i * 3)
          have fz31 := fz3 (i * 3 + 1)
          have HH3 := Bx.mk H3
          have HX := Bx.mk hXb
          obtain ⟨bk, hbk'⟩ : ∃ b, B v.task = b := ⟨_, rfl⟩
          have HBK := Bx.mk hbk'
          rw [hbk'] at e2 f2 hbp hbg c13 c23 k03 k13 fzp3 fz30 fz31 ⊢
          have S3 := S2.set (b := bk) (i := 2) (.inl (by rw [← hbk']; exact hXb)) (.bool true)
          clear H2 H3 hl HHO HN fzg fz3 hbk hlast hXb hbk' c1 c2 k0 k1 fzp fz0 fz1 ht hbq q2 he hh
          go_wp2_with fail
          go_ret
          rw [← hO]
          have H3 := HH3.out
          rw [HBK.out] at H3
          obtain ⟨E1, E2⟩ := die_end H3 HW.out HV.out HT.out
          exact ⟨rfl, E1, S3.trans E2⟩
        · rw [if_neg ht] at hO
          have hbq : (t1.1 == (i : Int)) = false := by rw [beq_eq_false_iff_ne]; exact ht
          rw [hbq]
          clear H2 hl HHO HN fzg hlast ht hbq he
          go_wp2_with fail
          go_ret
          rw [← hO]
          obtain ⟨E1, E2⟩ := die_end HH2.out HW.out HV.out HT.out
          exact ⟨rfl, E1, S2.trans E2⟩
    · rw [hd] at k0 hO
      rw [if_pos rfl] at hO
      go_wp2_with fail
      refine HN.out.mono ?_
      rintro e w1 ⟨rfl, rfl⟩
      go_wp2_with fail
      go_ret
      rw [← hO]
      exact ⟨rfl, ⟨_, _, _, _, _, _, _, _, HH.out⟩, DStep.refl _ _⟩
  · have hO := HO.out
    rw [if_pos hb0] at hO
    go_wp2_with fail
    refine HN.out.mono ?_
    rintro e w1 ⟨rfl, rfl⟩
    go_wp2_with fail
    go_ret
    rw [← hO]
    exact ⟨rfl, ⟨_, _, _, _, _, _, _, _, HH.out⟩, DStep.refl _ _⟩
end
end Go.Proofs.Ytfdacckkdjpjhaa
