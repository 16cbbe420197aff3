/- Package pool's model: Ask. -/
import Derived.Test.YtfdacckkdjpjhaaPmJ
import Derived.Test.YtfdacckkdjpjhaaHas
import Derived.Test.YtfdacckkdjpjhaaHeld
namespace Go.Proofs.Ytfdacckkdjpjhaa
open Go.RowKit

theorem Try.infoTr : (Try.prog.info? 135).map (fun i => (i.zero, i.size, i.bytes)) = some (some (.agg #[.int .i64 0, .int .i64 0, .int .i64 0, .int .i64 0, .bool false]), 5, 40) := by kernel_rfl
theorem Try.elTr : Elem Try.prog 128 135 (.agg #[.int .i64 0, .int .i64 0, .int .i64 0, .int .i64 0, .bool false]) 5 40 := ⟨Try.underlying128, Try.infoTr, rfl, by decide, by decide⟩
theorem results_tmp4 {fn : Func} {t u v x : Tmp} (h : fn.results = #[.tmp t, .tmp u, .tmp v, .tmp x]) (tmps : Array Value) (P : Program) (w : World) :
    (results fn tmps).run P w = .ok (.tuple #[tmps.getD t undef, tmps.getD u undef, tmps.getD v undef, tmps.getD x undef]) w := by
  simp [results, h]
theorem set_same {α : Type} {l : List α} {i : Nat} {x : α} (h : l[i]? = some x) : l.set i x = l := by
  apply List.ext_getElem?
  intro j
  rw [List.getElem?_set]
  by_cases e : i = j
  · subst e
    rw [if_pos rfl, if_pos (List.getElem?_eq_some_iff.1 h).1, h]
  · rw [if_neg e]
theorem mdOf_give {D : Pl} (L L' : List Tr) (ok : POk D) {i k : Nat} {v : Wk} {t kk : Int} {e : En} (hv : D.ws[i]? = some v) (hk : D.ids[k]? = some kk) (he : D.ts kk = some e) :
    mdOf (D.give i v t kk e) L' = { mdOf D L with jobs := (mdOf D L).jobs.set k ⟨kk, e.body, (e.tries.length : Int) + 1, e.done, e.ans.worker, e.ans.tr, e.ans.body⟩, tries := L' } := by
  rw [mdOf_set (D' := D.give i v t kk e) (L := L) ok hk he rfl (fun _ => rfl) (by
    show (D.ws.set i _).map _ = _
    rw [List.map_set]
    exact set_same (by rw [List.getElem?_map, hv]; rfl)) rfl L']
  simp only [List.length_append, List.length_singleton]
  rfl
theorem trcells_snoc (l : List Tr) (x : Tr) : trcells (l ++ [x]) = trcells l ++ x.cells := by unfold trcells; rw [List.flatMap_append]; simp
/-- What Ask leaves. -/
def AskM (w : World) (q : Nat) (Y R : Nat → Prop) (O : Asked × Pl) (L' : List Tr) (e : Ending) (w' : World) : Prop :=
  e = .returned (.tuple #[.int .i64 O.1.id, .int .i64 O.1.n, .bool O.1.is, .int .i64 O.1.err]) ∧ ∃ Y', MAt w' q Y' R (mdOf O.2 L') ∧ DStep Y Y' w w'
theorem mdOf_tick (D : Pl) (L : List Tr) (t : Int) : mdOf { D with tick := t } L = { mdOf D L with tick := t } := rfl
section
variable {q : Nat} {Y R : Nat → Prop} {D : Pl} {L : List Tr}
set_option maxRecDepth 20000 in
set_option maxHeartbeats 4000000 in
theorem mask_any (x t : Int) (w : World) (h : MAt w q Y R (mdOf D L)) (ok : POk D) (log : Log D L) {nt : Nat} (hL : L.length ≤ nt) (htl : TL nt D) (hnt : nt ≤ 1000000) :
    Calls Try.prog 36 #[.pointer (some ⟨q, 0, none⟩), .int .i64 x, .int .i64 t] w (AskM w q Y R (D.ask x t) (D.logAsk x t L)) := by
  obtain ⟨av, jv, tv, J, h⟩ := h
  have HC := Bx.mk (check_any x t w h)
  rw [mdOf_wrong] at HC
  unfold Pl.logAsk
  obtain ⟨O, hO⟩ : ∃ O, D.ask x t = O := ⟨_, rfl⟩
  rw [hO]
  obtain ⟨L', hL'⟩ : ∃ L', (if O.1.is = true then L ++ [⟨O.1.id, O.1.n.toNat, x, t, false⟩] else L) = L' := ⟨_, rfl⟩
  rw [hL']
  have HL' := Bx.mk hL'
  unfold Pl.ask at hO
  obtain ⟨r, hr⟩ : ∃ r, D.wrong x t = r := ⟨_, rfl⟩
  rw [hr] at HC hO
  have HO := Bx.mk hO
  have HH := Bx.mk h
  have HOK := Bx.mk ok
  have HLG := Bx.mk log
  have HTL := Bx.mk htl
  obtain ⟨m, hm⟩ : ∃ m, L.length = m := ⟨_, rfl⟩
  rw [hm] at hL
  have HM := Bx.mk hm
  have HMD : Bx ((mdOf D L).jobs.length ≤ 1000000000) := ⟨by rw [mdOf_len]; have := ok.many; omega⟩
  clear hO h ok log htl hm hL'
  go_enter Try.func36, Try.ntmps36
  go_wp2_with fail
  refine HC.out.mono ?_
  rintro e w1 ⟨rfl, hw1⟩
  subst hw1
  by_cases hr0 : r = 0
  · subst hr0
    obtain ⟨hno, ht0, ht1, ht2⟩ := wrong_ok hr
    have HPK := Bx.mk (pok_tick HOK.out ⟨ht0, ht1, ht2⟩)
    obtain ⟨i, v, rfl, hi, hv⟩ := yes_worker hno
    have hO := HO.out
    rw [if_neg (by simp), Int.toNat_natCast, hv] at hO
    simp only at hO
    have hav : (mdOf D L).alive[i]? = some (!v.dead) := by rw [mdOf_alive, hv]; rfl
    obtain ⟨ga, ca, hvl, hac, hcell⟩ := HH.out.live hav
    have c0 := HH.out.c0
    rw [hvl] at c0
    obtain ⟨na, hna⟩ : ∃ n, (mdOf D L).alive.length = n := ⟨_, rfl⟩
    have hia : i < na := by rw [← hna]; exact (List.getElem?_eq_some_iff.1 hav).1
    rw [hna] at c0 hac
    have hiaI : (i : Int) < (na : Int) := by omega
    have HV := Bx.mk hv
    have HO1 := Bx.mk hO
    have hi64 : i < 64 := by have := HOK.out.wsl; omega
    clear hO HO hr hno hav hvl hna hi HC
    cases hd : v.dead
    · rw [hd] at hcell
      have hO := HO1.out
      rw [hd, if_neg (by simp)] at hO
      have HO2 := Bx.mk hO
      have hcell : w1.cell? ⟨ga, i, none⟩ = some (.bool true) := hcell
      clear hO HO1 hd
      go_wp2_with fail
      go_loopw [11, 12] (fun tk u W => ∃ (k mt : Nat) (l : List Int), u = .int .i64 (k : Int) ∧ k ≤ m ∧ mt ≤ k ∧ Bx (l.length = mt) ∧ Bx (l = takenL D t (L.take k)) ∧ Bx (∀ y ∈ L.take k, D.hot y t = true → y.worker ≠ (i : Int)) ∧ W.ownsRow w1.heap.size 3 1 tk mt (l.map (Value.int .i64)) ∧ Below w1.heap.size w1 W) (fun _ u _ => m - (intOf u).toNat)
      case atStart => exact ⟨0, 0, [], rfl, Nat.zero_le _, Nat.le_refl _, ⟨rfl⟩, ⟨rfl⟩, ⟨fun y hy => by simp at hy⟩, World.ownsRow_nil _ _ _ _, Below.refl _ _⟩
      case round =>
        rename World => W
        obtain ⟨k, mt, l, rfl, hk, hmt, HLl, HTK, HNB, hO, hB⟩ := hrel
        obtain ⟨oa, oc, rfl⟩ := own_isSlice hO
        have HX := HH.out.later hB
        have c4 := HX.c4
        obtain ⟨ta, tc, htv⟩ := own_isSlice HX.tr
        replace htv : tv = .slice ta m tc := by rw [htv]; show Value.slice ta L.length tc = _; rw [HM.out]
        by_cases hlt : k < m
        · have hltI : (k : Int) < (m : Int) := by omega
          obtain ⟨y, hy⟩ : ∃ y, L[k]? = some y := ⟨_, List.getElem?_eq_getElem (by have := HM.out; omega)⟩
          obtain ⟨g, c, hv2, hc, _, y0, y1, y2, y3, y4⟩ := HX.try (i := k) (x := y) hy
          replace hv2 : tv = .slice (some ⟨g, 0, none⟩) m c := by rw [hv2]; show Value.slice _ L.length c = _; rw [HM.out]
          replace hc : m ≤ c := by have h8 : L.length ≤ c := hc; rw [HM.out] at h8; exact h8
          rw [hv2] at htv c4
          clear htv hv2
          obtain ⟨en, hen, _⟩ := HLG.out.get y (List.mem_of_getElem? hy)
          obtain ⟨jx, _, hjob, huniq⟩ := mdOf_job L HOK.out hen
          have hyt : 0 ≤ y.tick ∧ y.tick ≤ 1099511627776 := by
            obtain ⟨e2, he2, hg⟩ := HLG.out.get y (List.mem_of_getElem? hy)
            have h1 := (HOK.out.tri _ _ he2 _ (List.mem_of_getElem? hg)).2
            have h2 := HOK.out.tck
            exact ⟨h1.1, Int.le_trans h1.2 h2.2⟩
          have HRUN := Bx.mk (mrunning_any y t W HX HMD.out hjob (jbOf_id D y.task) (fun i f hf he => huniq i f hf (he.trans (jbOf_id D y.task))) hyt HOK.out.tmo)
          rw [mdOf_hot L hen] at HRUN
          have HSN := Bx.mk (takenL_snoc D t (L.take k) y)
          rw [← take_snoc hy, ← HTK.out] at HSN
          have HYY := Bx.mk hy
          obtain ⟨hb, hhb⟩ : ∃ b, D.hot y t = b := ⟨_, rfl⟩
          rw [hhb] at HRUN HSN
          have HHB := Bx.mk hhb
          have HCC : Bx (W.cell? ⟨g, k * 5, none⟩ = some (.int .i64 y.task) ∧ W.cell? ⟨g, k * 5 + 2, none⟩ = some (.int .i64 y.worker)) := ⟨y0, y2⟩
          clear HX hy hen hjob huniq hyt HTK hhb
          go_wp2_with fail
          refine HRUN.out.mono ?_
          rintro e w2 ⟨rfl, B2⟩
          have B3 := bel hB B2
          have O3 := own_below hO B2
          have c4 := (B2.cell (p := ⟨q, 4, none⟩) (World.block_lt_of_cell? _ _ c4)).trans c4
          have y0 := (B2.cell (p := ⟨g, k * 5, none⟩) (World.block_lt_of_cell? _ _ y0)).trans y0
          have y2 := (B2.cell (p := ⟨g, k * 5 + 2, none⟩) (World.block_lt_of_cell? _ _ y2)).trans y2
          obtain ⟨yw, hyw⟩ : ∃ a, y.worker = a := ⟨_, rfl⟩
          obtain ⟨yt, hyt⟩ : ∃ a, y.task = a := ⟨_, rfl⟩
          rw [hyw] at y2
          rw [hyt] at y0 HSN
          have HYW := Bx.mk hyw
          clear HCC HRUN hB hO B2 hyw hyt y1 y3 y4
          cases hb
          · go_wp2_with fail
            go_roundw
            case rel => exact ⟨k + 1, mt, l, by simp, by omega, by omega, HLl, ⟨by rw [HSN.out]; simp⟩, ⟨fun z hz hh => by
              rw [take_snoc HYY.out] at hz
              rcases List.mem_append.1 hz with q | q
              · exact HNB.out z q hh
              · rw [List.mem_singleton.1 q, HHB.out] at hh; cases hh⟩, O3, B3⟩
            case measure => simp [intOf]; omega
          · by_cases hwk : yw = (i : Int)
            · subst hwk
              have hbusy : D.busy v (i : Int) t = true := (HLG.out.busy ht2 HV.out).2 ⟨y, List.mem_of_getElem? HYY.out, HYW.out, HHB.out⟩
              have hO := HO2.out
              rw [if_pos hbusy] at hO
              clear hbusy HO2
              go_wp2_with fail
              (try simp only [Exit.inBlock, Exit.then]); refine bodyPost_ret (results_tmp4 rfl _ _ _) rfl ?_
              have hL2 := HL'.out
              rw [← hO] at hL2 ⊢
              have hL2 : L = L' := hL2
              rw [← hL2]
              exact ⟨rfl, Y, ⟨_, _, _, _, HH.out.later B3⟩, DStep.ofBelow _ B3⟩
            · have hwb : (yw == (i : Int)) = false := by simp [hwk]
              have O4 := O3.alloc (.cells #[.int .i64 yt] 3)
              go_wp2_with (at_builtin; go_loud (refine wpList_app2 _ rfl _ _ rfl Try.elI w1.heap.size (.slice oa mt oc) mt _ rfl O4 _ 1 [.int .i64 yt] rfl (Rv.one _ _ _) rfl (ones1 _ rfl) (by omega) (by have := B3.size; simp; omega) ?_; intro v5 w5 O5 g5 s5; refine later ?_))
              refine Later.in ?_
              have B5 := (B3.alloc B3.size (.cells #[.int .i64 yt] 3)).grown g5 (by have := B3.size; simp; omega) (fun g hg => (O3.lt g hg).1)
              obtain ⟨a5, c5, rfl⟩ := own_isSlice O5
              have HO5 := Bx.mk O5
              have HB5 := Bx.mk B5
              clear O5 B5 g5 s5 O4 O3 B3 c4 y0 y2
              go_wp2_with fail
              go_roundw
              case rel => exact ⟨k + 1, mt + 1, l ++ [yt], by simp, by omega, by omega, ⟨by rw [List.length_append, HLl.out]; rfl⟩, ⟨by rw [HSN.out]; simp⟩, ⟨fun z hz hh => by
                rw [take_snoc HYY.out] at hz
                rcases List.mem_append.1 hz with q | q
                · exact HNB.out z q hh
                · rw [List.mem_singleton.1 q, HYW.out]; exact hwk⟩, by rw [List.map_append]; exact HO5.out, HB5.out⟩
              case measure => simp [intOf]; omega
        · obtain rfl : k = m := by omega
          rw [htv] at c4
          have htk := HTK.out
          have hnb := HNB.out
          rw [← HM.out, List.take_length] at htk hnb
          have hbusy : ¬ D.busy v (i : Int) t = true := fun q => by
            obtain ⟨y, hy, h1, h2⟩ := (HLG.out.busy ht2 HV.out).1 q
            exact hnb y hy h2 h1
          have hOO := HO2.out
          rw [if_neg hbusy] at hOO
          have HO3 := Bx.mk hOO
          have HTK2 := Bx.mk htk
          have H1 := HH.out.later hB
          have S1 := DStep.ofBelow Y hB
          have hfq := H1.fz 2
          have c2 := H1.c2
          have hql := H1.lt
          have HH1 := Bx.mk H1
          have HS1 := Bx.mk S1
          have HO4 := Bx.mk hO
          have hoq : ∀ b, (Value.slice oa mt oc).ownBlock = some b → b ≠ q := fun b hb e => by have h1 := (hO.lt b hb).1; have h2 := HH.out.lt; omega
          have HOQ := Bx.mk hoq
          clear htk hnb hbusy hOO H1 S1 hO hB hoq HO2 HX htv HTK HNB hcell c0 hiaI hac hia hv
          go_upto_region 15 with fail
          have X2 := HH1.out.tick t
          rw [← mdOf_tick] at X2
          have S2 := HS1.out.set (b := q) (i := 2) (.inl HH1.out.yq) (.int .i64 t)
          have O2 := own_same HO4.out (w' := W.setCell ⟨q, 2, none⟩ (.int .i64 t)) (fun b hb => Below.heap_setCell _ _ _ _ (HOQ.out b hb))
          generalize W.setCell ⟨q, 2, none⟩ (.int .i64 t) = W2 at *
          obtain ⟨n, hn⟩ : ∃ n, D.ids.length = n := ⟨_, rfl⟩
          have HN := Bx.mk hn
          have hn1024 : n ≤ 1024 := by have := HOK.out.many; omega
          have HX2 := Bx.mk X2
          have HS2 := Bx.mk S2
          have HO2 := Bx.mk O2
          clear hn X2 S2 O2 hfq c2 c4 HH1 HS1 hql HO4 HOQ
          go_wp2_with fail
          go_loopw [13] (fun u W => ∃ (k : Nat), u = .int .i64 (k : Int) ∧ k ≤ n ∧ Bx (D.pickIn t (D.ids.take k) = none) ∧ Below W2.heap.size W2 W) (fun u _ => n - (intOf u).toNat)
          case atStart => exact ⟨0, rfl, Nat.zero_le _, ⟨rfl⟩, Below.refl _ _⟩
          case round =>
            rename World => W3
            obtain ⟨k2, rfl, hk2, HPI, hB⟩ := hrel
            have HX := HX2.out.later hB
            have c3 := HX.c3
            obtain ⟨ja, jc, hjv⟩ := own_isSlice HX.jo
            replace hjv : jv = .slice ja n jc := by rw [hjv, HX.len, mdOf_len]; show Value.slice _ D.ids.length _ = _; rw [HN.out]
            by_cases hlt2 : k2 < n
            · have hltI : (k2 : Int) < (n : Int) := by omega
              obtain ⟨kk, hkk⟩ : ∃ kk, D.ids[k2]? = some kk := ⟨_, List.getElem?_eq_getElem (by have := HN.out; omega)⟩
              obtain ⟨e, he⟩ := (HOK.out.mem kk).1 (List.mem_of_getElem? hkk)
              obtain ⟨jx, g, c, hjx, hjxj, hjv2, hc, hcm, k0, _, kn, k3, _, _, _, kfz⟩ := HX.atI (D := { D with tick := t }) hkk he
              replace hjv2 : jv = .slice (some ⟨g, 0, none⟩) n c := by rw [hjv2]; show Value.slice _ D.ids.length _ = _; rw [HN.out]
              replace hc : n ≤ c := by have h8 : D.ids.length ≤ c := hc; rw [HN.out] at h8; exact h8
              rw [hjv2] at hjv c3
              have hsn := pickIn_snoc D t HPI.out he
              rw [← take_snoc hkk] at hsn
              have hrun := taken_iff HLG.out ht2 he
              rw [← HTK2.out] at hrun
              obtain ⟨nl, hnl⟩ : ∃ n, e.tries.length = n := ⟨_, rfl⟩
              rw [hnl] at kn
              have hnlm : nl ≤ nt := by rw [← hnl]; exact HTL.out kk e he
              obtain ⟨dn, hdn⟩ : ∃ b, e.done = b := ⟨_, rfl⟩
              rw [hdn] at k3 hsn
              have HSN := Bx.mk hsn
              have HRN := Bx.mk hrun
              have HKK := Bx.mk hkk
              have HE := Bx.mk he
              have HNL := Bx.mk hnl
              have HDN := Bx.mk hdn
              have HJX := Bx.mk hjx
              have HJJ := Bx.mk hjxj
              have HJV := Bx.mk hjv2
              have HKF := Bx.mk kfz
              have HXX := Bx.mk HX
              clear hsn hrun hkk he hnl hdn hjx hjxj hjv2 hjv kfz HX
              cases dn
              · have O3 := own_below HO2.out hB
                have hrv : Rv W3 (.slice oa mt oc) l.length (l.map (Value.int .i64)) := by rw [HLl.out]; exact Rv.of_own O3
                have HHS := Bx.mk (has_any (.slice oa mt oc) l kk W3 hrv (by rw [HLl.out]; omega))
                obtain ⟨hb, hhb⟩ : ∃ b, hasB l kk = b := ⟨_, rfl⟩
                rw [hhb] at HHS
                have HHB := Bx.mk hhb
                clear O3 hrv hhb
                go_wp2_with fail
                refine HHS.out.mono ?_
                rintro e3 w3 ⟨rfl, hw3⟩
                subst hw3
                clear HHS
                cases hb
                · have hnin : D.run e t = false := by
                    cases q : D.run e t
                    · rfl
                    · exact absurd (HRN.out.2 q) (of_decide_eq_false HHB.out)
                  have htl : (D.ids.take k2).length = k2 := by rw [List.length_take]; have := HN.out; omega
                  have hpk := pickIn_at D t (l := D.ids.take k2) (by rw [htl]; exact HKK.out) (by rw [htl]) HPI.out HE.out (by rw [HDN.out, hnin]; rfl)
                  have hOO := HO3.out
                  rw [hpk] at hOO
                  have HOO := Bx.mk hOO
                  have hwn : IntKind.i64.wrap ((nl : Int) + 1) = (nl : Int) + 1 := by rw [IntKind.wrap_i64]; omega
                  have hgl := World.block_lt_of_cell? _ _ kn
                  have fn := HKF.out (k2 * 7 + 2)
                  have hkJ : k2 < J.length := (List.getElem?_eq_some_iff.1 HJX.out).1
                  clear hnin htl hpk hOO
                  go_upto_region 21 with fail
                  have X4 := HXX.out.jobSet (j := 2) (u := .int .i64 ((nl : Int) + 1)) HJV.out ⟨{ jx.j with n := (nl : Int) + 1 }, jx.bv, jx.rv⟩ HJX.out (by decide) rfl rfl rfl rfl rfl
                  have S4 := ((HS2.out.trans (DStep.ofBelow Y hB))).set (b := g) (i := k2 * 7 + 2) (.inl (HXX.out.yj g (by rw [HJV.out]; rfl))) (.int .i64 ((nl : Int) + 1))
                  have hx4 : (J.set k2 ⟨{ jx.j with n := (nl : Int) + 1 }, jx.bv, jx.rv⟩)[k2]? = some ⟨{ jx.j with n := (nl : Int) + 1 }, jx.bv, jx.rv⟩ := List.getElem?_set_self hkJ
                  simp only [HJJ.out, jbOf_some (D := { D with tick := t }) HE.out] at X4 hx4
                  clear c3 k0 kn k3 fn hgl
                  generalize W3.setCell ⟨g, k2 * 7 + 2, none⟩ (.int .i64 ((nl : Int) + 1)) = W4 at *
                  have BD := (Below.refl W4.heap.size W4).drew
                  have X4 := X4.later BD
                  have S4 := S4.trans (DStep.ofBelow Y BD)
                  obtain ⟨c3, cc, _⟩ := X4.jc HJV.out hx4
                  have k0 := cc 0 _ rfl
                  rw [Nat.add_zero] at k0
                  have c4 := X4.c4
                  obtain ⟨ta, tc, htv⟩ := own_isSlice X4.tr
                  replace htv : tv = .slice ta k tc := by rw [htv]; show Value.slice ta L.length tc = _; rw [HM.out]
                  have O1d := X4.tr
                  replace O1d : W4.drew.ownsRow 0 135 5 (.slice ta k tc) k (trcells L) := by rw [← HM.out] at htv ⊢; rw [← htv]; exact O1d
                  rw [htv] at c4
                  have HTV := Bx.mk htv
                  have HX4 := Bx.mk X4
                  have HS4 := Bx.mk S4
                  have HJ4 := Bx.mk hx4
                  have k0 : W4.drew.cell? ⟨g, k2 * 7, none⟩ = some (.int .i64 kk) := k0
                  have s0 := And.intro c3 k0
                  clear X4 S4 htv hx4 BD cc
                  refine wp_region_held_drew (S := fun W => W.cell? ⟨q, 3, none⟩ = some (.slice (some ⟨g, 0, none⟩) n c) ∧ W.cell? ⟨g, k2 * 7, none⟩ = some (.int .i64 kk)) (by kernel_rfl) s0 (fun _ => ?_)
                  refine wpAnyH_do 0 121 rfl rfl (by kernel_rfl) (by kernel_rfl) (by kernel_rfl) (fun _ _ _ _ _ h => h) (by kernel_rfl) (fun W hS => by (obtain ⟨s1, s2⟩ := hS); go_simp; try with_reducible rfl) s0 ?_
                  simp only [List.setIfInBounds_toArray, List.set_cons_succ, List.set_cons_zero]
                  refine wpAnyH_do 1 122 rfl rfl (by kernel_rfl) (by kernel_rfl) (by kernel_rfl) (fun _ _ _ _ _ h => h) (by kernel_rfl) (fun W hS => by (obtain ⟨s1, s2⟩ := hS); go_simp; try with_reducible rfl) s0 ?_
                  simp only [List.setIfInBounds_toArray, List.set_cons_succ, List.set_cons_zero]
                  refine wpAnyH_do 2 123 rfl rfl (by kernel_rfl) (by kernel_rfl) (by kernel_rfl) (fun _ _ _ _ _ h => h) (by kernel_rfl) (fun W hS => by (obtain ⟨s1, s2⟩ := hS); go_simp; try with_reducible rfl) s0 ?_
                  simp only [List.setIfInBounds_toArray, List.set_cons_succ, List.set_cons_zero]
                  refine wpAnyH_do 3 124 rfl rfl (by kernel_rfl) (by kernel_rfl) (by kernel_rfl) (fun _ _ _ _ _ h => h) (by kernel_rfl) (fun W hS => by (obtain ⟨s1, s2⟩ := hS); go_simp; try with_reducible rfl) s0 ?_
                  simp only [List.setIfInBounds_toArray, List.set_cons_succ, List.set_cons_zero]
                  refine wpAnyH_do 5 126 rfl rfl (by kernel_rfl) (by kernel_rfl) (by kernel_rfl) (fun _ _ _ _ _ h => h) (by kernel_rfl) (fun W hS => by (obtain ⟨s1, s2⟩ := hS); go_simp; try with_reducible rfl) s0 ?_
                  simp only [List.setIfInBounds_toArray, List.set_cons_succ, List.set_cons_zero]
                  refine wpAnyH_do 6 127 rfl rfl (by kernel_rfl) (by kernel_rfl) (by kernel_rfl) (fun _ _ _ _ _ h => h) (by kernel_rfl) (fun W hS => by (obtain ⟨s1, s2⟩ := hS); go_simp; try with_reducible rfl) s0 ?_
                  simp only [List.setIfInBounds_toArray, List.set_cons_succ, List.set_cons_zero]
                  refine wpAnyH_do 7 128 rfl rfl (by kernel_rfl) (by kernel_rfl) (by kernel_rfl) (fun _ _ _ _ _ h => h) (by kernel_rfl) (fun W hS => by (obtain ⟨s1, s2⟩ := hS); go_simp; try with_reducible rfl) s0 ?_
                  simp only [List.setIfInBounds_toArray, List.set_cons_succ, List.set_cons_zero]
                  refine wpAnyH_do 8 129 rfl rfl (by kernel_rfl) (by kernel_rfl) (by kernel_rfl) (fun _ _ _ _ _ h => h) (by kernel_rfl) (fun W hS => by (obtain ⟨s1, s2⟩ := hS); go_simp; try with_reducible rfl) s0 ?_
                  simp only [List.setIfInBounds_toArray, List.set_cons_succ, List.set_cons_zero]
                  refine wpAnyH_do 9 130 rfl rfl (by kernel_rfl) (by kernel_rfl) (by kernel_rfl) (fun _ _ _ _ _ h => h) (by kernel_rfl) (fun W hS => by (obtain ⟨s1, s2⟩ := hS); go_simp; try with_reducible rfl) s0 ?_
                  simp only [List.setIfInBounds_toArray, List.set_cons_succ, List.set_cons_zero]
                  refine wpAnyH_do 10 131 rfl rfl (by kernel_rfl) (by kernel_rfl) (by kernel_rfl) (fun _ _ _ _ _ h => h) (by kernel_rfl) (fun W hS => by (obtain ⟨s1, s2⟩ := hS); go_simp; try with_reducible rfl) s0 ?_
                  simp only [List.setIfInBounds_toArray, List.set_cons_succ, List.set_cons_zero]
                  refine wpAnyH_do 11 132 rfl rfl (by kernel_rfl) (by kernel_rfl) (by kernel_rfl) (fun _ _ _ _ _ h => h) (by kernel_rfl) (fun W hS => by (obtain ⟨s1, s2⟩ := hS); go_simp; try with_reducible rfl) s0 ?_
                  simp only [List.setIfInBounds_toArray, List.set_cons_succ, List.set_cons_zero]
                  refine wpAnyH_do 12 133 rfl rfl (by kernel_rfl) (by kernel_rfl) (by kernel_rfl) (fun _ _ _ _ _ h => h) (by kernel_rfl) (fun W hS => by (obtain ⟨s1, s2⟩ := hS); go_simp; try with_reducible rfl) s0 ?_
                  simp only [List.setIfInBounds_toArray, List.set_cons_succ, List.set_cons_zero]
                  refine wpAnyH_do 13 134 rfl rfl (by kernel_rfl) (by kernel_rfl) (by kernel_rfl) (fun _ _ _ _ _ h => h) (by kernel_rfl) (fun W hS => by (obtain ⟨s1, s2⟩ := hS); go_simp; try with_reducible rfl) s0 ?_
                  simp only [List.setIfInBounds_toArray, List.set_cons_succ, List.set_cons_zero]
                  refine wpAnyH_do 14 135 rfl rfl (by kernel_rfl) (by kernel_rfl) (by kernel_rfl) (fun _ _ _ _ _ h => h) (by kernel_rfl) (fun W hS => by (obtain ⟨s1, s2⟩ := hS); go_simp; try with_reducible rfl) s0 ?_
                  simp only [List.setIfInBounds_toArray, List.set_cons_succ, List.set_cons_zero]
                  refine wpAnyH_do 15 136 rfl rfl (by kernel_rfl) (by kernel_rfl) (by kernel_rfl) (fun _ _ _ _ _ h => h) (by kernel_rfl) (fun W hS => by (obtain ⟨s1, s2⟩ := hS); go_simp; try with_reducible rfl) s0 ?_
                  simp only [List.setIfInBounds_toArray, List.set_cons_succ, List.set_cons_zero]
                  refine wpAnyH_do 16 137 rfl rfl (by kernel_rfl) (by kernel_rfl) (by kernel_rfl) (fun _ _ _ _ _ h => h) (by kernel_rfl) (fun W hS => by (obtain ⟨s1, s2⟩ := hS); go_simp; try with_reducible rfl) s0 ?_
                  simp only [List.setIfInBounds_toArray, List.set_cons_succ, List.set_cons_zero]
                  generalize W4.drew = w11 at *
                  have B12 := (Below.refl w11.heap.size w11).alloc (Nat.le_refl _) (.cells #[.int .i64 kk, .int .i64 (nl : Int), .int .i64 (i : Int), .int .i64 t, .bool false] 135)
                  have ca : ∀ b j u, w11.cell? ⟨b, j, none⟩ = some u → (w11.alloc (.cells #[.int .i64 kk, .int .i64 (nl : Int), .int .i64 (i : Int), .int .i64 t, .bool false] 135)).cell? ⟨b, j, none⟩ = some u := fun b j u hc => (B12.cell (p := ⟨b, j, none⟩) (World.block_lt_of_cell? _ _ hc)).trans hc
                  have s1 := And.intro (ca _ _ _ c3) (ca _ _ _ k0)
                  have c4a := ca _ _ _ c4
                  refine wpAnyH_two 4 17 rfl rfl (by kernel_rfl) (by kernel_rfl) (by kernel_rfl) (fun K hK => ?_) (fun K hK => ?_)
                  go_simp
                  refine hK _ _ s0 ?_
                  clear hK
                  refine wpAnyH_one 17 rfl (by kernel_rfl) (by kernel_rfl) (fun K hK => ?_)
                  go_simp
                  refine hK _ _ s1 ?_
                  clear hK
                  rotate_left
                  go_simp
                  refine hK _ _ s1 ?_
                  clear hK
                  refine wpAnyH_one 4 rfl (by kernel_rfl) (by kernel_rfl) (fun K hK => ?_)
                  go_simp
                  refine hK _ _ s1 ?_
                  clear hK
                  all_goals
                    refine wpAnyH_one 18 rfl (by kernel_rfl) (by kernel_rfl) (fun K hK => ?_)
                    have hone := Rv.lit w11 [.int .i64 kk, .int .i64 (nl : Int), .int .i64 (i : Int), .int .i64 t, .bool false] 135 1 (by decide)
                    refine opApp _ _ rfl Try.elTr 0 (.slice ta k tc) k _ rfl (O1d.alloc _) (.slice (some ⟨w11.heap.size, 0, none⟩) 1 1) 1 [.int .i64 kk, .int .i64 (nl : Int), .int .i64 (i : Int), .int .i64 t, .bool false] rfl hone rfl (by intro u hu; simp at hu; rcases hu with rfl | rfl | rfl | rfl | rfl <;> rfl) (by omega) (Nat.zero_le _) ?_
                    intro v13 w13 O13 g13 sn13
                    obtain ⟨kv, a13, q13, rfl⟩ := own_shape O13
                    obtain ⟨Y5, X5, S5⟩ := HX4.out.appT (o := .cells #[.int .i64 kk, .int .i64 (nl : Int), .int .i64 (i : Int), .int .i64 t, .bool false] 135) (by rw [HTV.out]; exact g13) (by rw [HTV.out]; exact sn13) (l := L ++ [⟨kk, nl, (i : Int), t, false⟩]) (by rw [trcells_snoc, List.length_append, HM.out]; exact O13)
                    have k13 : ∀ b, b < w11.heap.size → (Value.slice ta k tc).ownBlock ≠ some b → w13.heap[b]? = w11.heap[b]? := fun b hb hn => (g13.block b (by simp; omega) (fun q => hn q.symm)).trans (Below.heap_alloc _ _ _ hb)
                    have hq13 := (k13 q HX4.out.lt (fun e => absurd rfl (kind_ne (HX4.out.kt (by rw [HTV.out]; exact e)) HX4.out.kq (by decide)))).trans HX4.out.blk
                    have hg13 := k13 g (World.block_lt_of_cell? _ _ k0) (fun e => absurd rfl (kind_ne (HX4.out.kt (by rw [HTV.out]; exact e)) (HX4.out.kj (g := g) (by rw [HJV.out]; rfl)) (by decide)))
                    have c313 : w13.cell? ⟨q, 3, none⟩ = some (.slice (some ⟨g, 0, none⟩) n c) := by
                      rw [← c3]
                      unfold World.cell?
                      rw [hq13, HX4.out.blk]
                    have k013 : w13.cell? ⟨g, k2 * 7, none⟩ = some (.int .i64 kk) := by
                      rw [← k0]
                      unfold World.cell?
                      rw [hg13]
                    have f13 : w13.frozen? ⟨q, 4, none⟩ = false := by
                      unfold mdO at hq13
                      simp [World.frozen?, hq13]
                    obtain ⟨u13, c413⟩ : ∃ u, w13.cell? ⟨q, 4, none⟩ = some u := by
                      unfold mdO at hq13
                      exact ⟨_, by simp [World.cell?, hq13]; rfl⟩
                    have hq13l := World.block_lt_of_cell? _ _ c413
                    have s2 := And.intro c313 k013
                    have HX5 := Bx.mk X5
                    have HS5 := Bx.mk S5
                    clear X5 S5 O13 g13 sn13 k13 hq13 hg13
                    refine hK _ _ s2 ?_
                    clear hK
                    simp only [Act.put, List.setIfInBounds_toArray]
                    refine wpAnyH_do 19 140 rfl rfl (by kernel_rfl) (by kernel_rfl) (by kernel_rfl) (fun _ _ _ _ _ h => h) (by kernel_rfl) (fun W hS => by (obtain ⟨s1, s2⟩ := hS); go_simp; try with_reducible rfl) s2 ?_
                    simp only [List.setIfInBounds_toArray, List.set_cons_succ, List.set_cons_zero]
                    refine wpAnyH_do 20 141 rfl rfl (by kernel_rfl) (by kernel_rfl) (by kernel_rfl) (fun _ _ _ _ _ h => h) (by kernel_rfl) (fun W hS => by (obtain ⟨s1, s2⟩ := hS); go_simp; try with_reducible rfl) s2 ?_
                    simp only [List.setIfInBounds_toArray, List.set_cons_succ, List.set_cons_zero]
                    refine wpAnyH_one 21 rfl (by kernel_rfl) (by kernel_rfl) (fun K hK => ?_)
                    go_simp
                    obtain ⟨w14, hw14⟩ : ∃ W, w13.setCell ⟨q, 4, none⟩ (.slice a13 kv q13) = W := ⟨_, rfl⟩
                    rw [hw14] at HX5 HS5 ⊢
                    obtain ⟨c35, cc5, _⟩ := HX5.out.jc HJV.out HJ4.out
                    have k05 := cc5 0 _ rfl
                    rw [Nat.add_zero] at k05
                    have k05 : w14.cell? ⟨g, k2 * 7, none⟩ = some (.int .i64 kk) := k05
                    refine hK _ _ (And.intro c35 k05) ?_
                    clear hK hw14 c313 k013 f13 c413 hq13l s2 cc5
                    refine wpAnyH_done (by kernel_rfl) ?_ _
                    go_wp2_with fail
                    (try simp only [Exit.inBlock, Exit.then]); refine bodyPost_ret (results_tmp4 rfl _ _ _) rfl ?_
                    have hL2 := HL'.out
                    have hOO := HOO.out
                    obtain rfl := HNL.out
                    rw [← hOO] at hL2 ⊢
                    replace hL2 : L ++ [⟨kk, e.tries.length, (i : Int), t, false⟩] = L' := by
                      rw [← hL2]
                      show _ = if true = true then L ++ [⟨kk, ((e.tries.length : Nat) : Int).toNat, (i : Int), t, false⟩] else L
                      rw [if_pos rfl, Int.toNat_natCast]
                    rw [← hL2]
                    exact ⟨rfl, Y5, HX5.out.cast (mdOf_give (D := { D with tick := t }) L _ HPK.out HV.out HKK.out HE.out), HS4.out.trans HS5.out⟩
                · have hin : D.run e t = true := HRN.out.1 (of_decide_eq_true HHB.out)
                  have HSN2 := HSN.out
                  rw [hin] at HSN2
                  have HSN3 := Bx.mk HSN2
                  clear hin HSN2
                  go_wp2_with fail
                  go_roundw
                  case rel => exact ⟨k2 + 1, by simp, by omega, ⟨by rw [HSN3.out]; simp⟩, hB⟩
                  case measure => simp [intOf]; omega
              · go_wp2_with fail
                go_roundw
                case rel => exact ⟨k2 + 1, by simp, by omega, ⟨by rw [HSN.out]; simp⟩, hB⟩
                case measure => simp [intOf]; omega
            · obtain rfl : k2 = n := by omega
              rw [hjv] at c3
              have hpi := HPI.out
              rw [← HN.out, List.take_length] at hpi
              have hOO := HO3.out
              rw [hpi] at hOO
              have HOO := Bx.mk hOO
              clear hpi hOO hjv HX
              go_wp2_with fail
              (try simp only [Exit.inBlock, Exit.then]); refine bodyPost_ret (results_tmp4 rfl _ _ _) rfl ?_
              have hL2 := HL'.out
              have hOO := HOO.out
              rw [← hOO] at hL2 ⊢
              have hL2 : L = L' := hL2
              rw [← hL2]
              exact ⟨rfl, Y, ⟨_, _, _, _, HX2.out.later hB⟩, HS2.out.trans (DStep.ofBelow _ hB)⟩
    · rw [hd] at hcell
      have hO := HO1.out
      rw [hd, if_pos rfl] at hO
      have hcell : w1.cell? ⟨ga, i, none⟩ = some (.bool false) := hcell
      clear HO1 hd
      go_wp2_with fail
      (try simp only [Exit.inBlock, Exit.then]); refine bodyPost_ret (results_tmp4 rfl _ _ _) rfl ?_
      have hL2 := HL'.out
      rw [← hO] at hL2 ⊢
      have hL2 : L = L' := hL2
      rw [← hL2]
      exact ⟨rfl, Y, ⟨_, _, _, _, HH.out⟩, DStep.refl _ _⟩
  · have hO := HO.out
    rw [if_pos hr0] at hO
    clear hr
    go_wp2_with fail
    (try simp only [Exit.inBlock, Exit.then]); refine bodyPost_ret (results_tmp4 rfl _ _ _) rfl ?_
    have hL2 := HL'.out
    rw [← hO] at hL2 ⊢
    have hL2 : L = L' := hL2
    rw [← hL2]
    exact ⟨rfl, Y, ⟨_, _, _, _, HH.out⟩, DStep.refl _ _⟩
end
end Go.Proofs.Ytfdacckkdjpjhaa
