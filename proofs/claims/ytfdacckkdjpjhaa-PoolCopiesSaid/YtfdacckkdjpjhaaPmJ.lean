/- Package pool's model: Answer. -/
import Derived.Test.YtfdacckkdjpjhaaPmI
namespace Go.Proofs.Ytfdacckkdjpjhaa
open Go.RowKit

theorem pok_tick {D : Pl} (ok : POk D) {t : Int} (h : 0 ≤ t ∧ t ≤ 1099511627776 ∧ D.tick ≤ t) : POk { D with tick := t } :=
  ⟨ok.ord, ok.mem, ok.idr, ok.many, ok.tmo, ⟨h.1, h.2.1⟩, ok.wsl, ok.bod, fun k e hk y hy => ⟨(ok.tri k e hk y hy).1, (ok.tri k e hk y hy).2.1, Int.le_trans (ok.tri k e hk y hy).2.2 h.2.2⟩, ok.has⟩
theorem knownL_snoc (l : List Tr) (x : Tr) (task worker tr : Int) : knownL (l ++ [x]) task worker tr = (knownL l task worker tr || (decide (x.task = task) && decide ((x.num : Int) = tr) && decide (x.worker = worker))) := by
  unfold knownL
  rw [List.any_append]
  simp
section
variable {w : World} {q : Nat} {av jv tv : Value} {J : List JV} {Y R R' : Nat → Prop} {M : Md}
/-- More bodies. -/
theorem MX.more (h : MX w q av jv tv J Y R M) (hR' : ∀ b, R' b → R b ∨ (¬ Y b ∧ b < w.heap.size)) (hRR : ∀ b, R b → R' b) : MX w q av jv tv J Y R' M :=
  ⟨h.blk, h.al, h.jo, h.tr, h.js, fun x hx => ⟨⟨(h.bd x hx).1.1, fun b hb => hRR b ((h.bd x hx).1.2 b hb)⟩, (h.bd x hx).2.1, fun b hb => hRR b ((h.bd x hx).2.2 b hb)⟩, h.yq, h.ya, h.yj, h.yt, fun b hy hr => (hR' b hr).elim (h.sep b hy) (fun e => e.1 hy), h.yl, fun b hb => (hR' b hb).elim (h.rl b) (fun e => e.2)⟩
/-- A job's number is set. -/
theorem MX.jobSet (h : MX w q av jv tv J Y R M) {g n c i j : Nat} (hv : jv = .slice (some ⟨g, 0, none⟩) n c) {x : JV} (x' : JV) {u : Value} (hx : J[i]? = some x) (hj : j < 7) (hu : x.cells.set j u = x'.cells) (h1 : x'.bv = x.bv) (h2 : x'.j.body = x.j.body) (h3 : x'.rv = x.rv) (h4 : x'.j.reply = x.j.reply) :
    MX (w.setCell ⟨g, i * 7 + j, none⟩ u) q av jv tv (J.set i x') Y R { M with jobs := M.jobs.set i x'.j } :=
  h.jobCell hv hx hj hu (by rw [h1, h2, h3, h4]; exact h.bd x (List.mem_of_getElem? hx))
end
theorem MX.cast {w : World} {q : Nat} {av jv tv : Value} {J : List JV} {Y R : Nat → Prop} {M M' : Md} (h : MX w q av jv tv J Y R M) (e : M' = M) : MAt w q Y R M' := e ▸ ⟨_, _, _, _, h⟩
theorem MX.jc {w : World} {q : Nat} {av jv tv : Value} {J : List JV} {Y R : Nat → Prop} {M : Md} (h : MX w q av jv tv J Y R M) {g n c k : Nat} {x : JV} (hv : jv = .slice (some ⟨g, 0, none⟩) n c) (hx : J[k]? = some x) :
    w.cell? ⟨q, 3, none⟩ = some (.slice (some ⟨g, 0, none⟩) n c) ∧ (∀ j u, x.cells[j]? = some u → w.cell? ⟨g, k * 7 + j, none⟩ = some u) ∧ ∀ j, w.frozen? ⟨g, j, none⟩ = false := by
  obtain ⟨g', c', e, _, _, hcell⟩ := row_at h.jo (by have := (List.getElem?_eq_some_iff.1 hx).1; omega)
  rw [hv] at e
  injection e with e1 e2 e3
  injection e1 with e1
  injection e1 with e1
  subst e1
  have hr := h.jo
  have hc3 := h.c3
  rw [hv] at hr hc3
  obtain rfl := own_k hr
  refine ⟨hc3, fun j u hu => hcell _ _ ?_, fun j => hr.frozenAt j⟩
  have hj : j < 7 := (List.getElem?_eq_some_iff.1 hu).1
  exact (flat_at JV.cells 7 jlen J k j x hx hj).trans hu
section
variable {q : Nat} {Y R : Nat → Prop} {D : Pl} {L : List Tr}
set_option maxRecDepth 20000 in
set_option maxHeartbeats 2000000 in
theorem manswer_any (task worker tr : Int) (bv : Value) (b : List UInt8) (t : Int) (w : World) (h : MAt w q Y R (mdOf D L)) (ok : POk D) (log : Log D L) (hL : L.length ≤ 1000000000) (hb : Rv w bv b.length (b.map vB)) (hbl : b.length ≤ 1000000000) (hoff : ∀ g, bv.ownBlock = some g → ¬ Y g ∧ g < w.heap.size) :
    Calls Try.prog 37 #[.pointer (some ⟨q, 0, none⟩), .int .i64 task, .int .i64 worker, .int .i64 tr, bv, .int .i64 t] w fun e w' => e = .returned (.tuple #[.bool (D.answer task worker tr b t).1, .int .i64 (D.answer task worker tr b t).2.1]) ∧
      ∃ R', MAt w' q Y R' (mdOf (D.answer task worker tr b t).2.2 L) ∧ (∀ x, R' x → R x ∨ bv.ownBlock = some x) ∧ DStep Y Y w w' := by
  obtain ⟨av, jv, tv, J, h⟩ := h
  have HC := Bx.mk (check_any worker t w h)
  rw [mdOf_wrong] at HC
  have HF := Bx.mk (find_any task w h (by rw [mdOf_len]; have := ok.many; omega))
  obtain ⟨O, hO⟩ : ∃ O, D.answer task worker tr b t = O := ⟨_, rfl⟩
  rw [hO]
  unfold Pl.answer at hO
  obtain ⟨r, hr⟩ : ∃ r, D.wrong worker t = r := ⟨_, rfl⟩
  rw [hr] at HC hO
  obtain ⟨ba, bc, rfl, hbc, _⟩ := hb.opened
  have HO := Bx.mk hO
  have HH := Bx.mk h
  have HOK := Bx.mk ok
  have HLG := Bx.mk log
  have HRV := Bx.mk hb
  have HOFF := Bx.mk hoff
  obtain ⟨bl, hbl'⟩ : ∃ n, b.length = n := ⟨_, rfl⟩
  rw [hbl'] at hbl hbc HRV HOFF
  rw [hbl']
  have HBL := Bx.mk hbl'
  clear hO h ok log hb hoff hbl'
  go_enter Try.func37, Try.ntmps37
  go_wp2_with fail
  refine HC.out.mono ?_
  rintro e w1 ⟨rfl, hw1⟩
  subst hw1
  by_cases hr0 : r = 0
  · subst hr0
    obtain ⟨_, ht0, ht1, ht2⟩ := wrong_ok hr
    have HPK := Bx.mk (pok_tick HOK.out ⟨ht0, ht1, ht2⟩)
    have hO := HO.out
    rw [if_neg (by simp)] at hO
    clear hr HO
    go_wp2_with fail
    refine HF.out.mono ?_
    rintro e w2 ⟨⟨f, rfl, hf⟩, hw2⟩
    subst hw2
    cases hts : D.ts task with
    | none =>
      rw [hts] at hO
      obtain rfl := fnd_none HOK.out hts hf
      clear hts hf HF HC
      go_wp2_with fail
      go_ret2
      rw [← hO]
      exact ⟨rfl, R, ⟨_, _, _, _, HH.out⟩, fun _ h => .inl h, DStep.refl _ _⟩
    | some en =>
      rw [hts] at hO
      obtain ⟨k, rfl, hk⟩ := fnd_some HOK.out hts hf
      have hkn := known_mine (task := task) (worker := worker) (tr := tr) HLG.out hts
      have HO := Bx.mk hO
      have HKN := Bx.mk hkn
      have HTS := Bx.mk hts
      have HK := Bx.mk hk
      have hkl : k < D.ids.length := (List.getElem?_eq_some_iff.1 hk).1
      have hkm : k < 1024 := by have := HOK.out.many; omega
      clear hO hkn hts hk hf HF HC hkl
      obtain ⟨m, hm⟩ : ∃ m, L.length = m := ⟨_, rfl⟩
      rw [hm] at hL
      have HM := Bx.mk hm
      clear hm
      go_wp2_with fail
      go_loopw [16, 17, 18] (fun kn u _ W => ∃ i : Nat, u = .int .i64 (i : Int) ∧ i ≤ m ∧ (∃ kb, kn = .bool kb ∧ Bx (kb = knownL (L.take i) task worker tr)) ∧ Below w2.heap.size w2 W) (fun _ u _ _ => m - (intOf u).toNat)
      case atStart => exact ⟨0, rfl, Nat.zero_le _, ⟨_, rfl, ⟨rfl⟩⟩, Below.refl _ _⟩
      case round =>
        rename World => W
        obtain ⟨i, rfl, hi, ⟨kb, rfl, HKB⟩, hB⟩ := hrel
        have HX := HH.out.later hB
        have c4 := HX.c4
        obtain ⟨ta, tc, htv⟩ := own_isSlice HX.tr
        replace htv : tv = .slice ta m tc := by rw [htv]; show Value.slice ta L.length tc = _; rw [HM.out]
        by_cases hlt : i < m
        · have hltI : (i : Int) < (m : Int) := by omega
          obtain ⟨x, hx⟩ : ∃ x, L[i]? = some x := ⟨_, List.getElem?_eq_getElem (by have := HM.out; omega)⟩
          obtain ⟨g, c, hv2, hc, _, y0, y1, y2, y3, y4⟩ := HX.try (i := i) (x := x) hx
          replace hv2 : tv = .slice (some ⟨g, 0, none⟩) m c := by rw [hv2]; show Value.slice _ L.length c = _; rw [HM.out]
          replace hc : m ≤ c := by have h8 : L.length ≤ c := hc; rw [HM.out] at h8; exact h8
          rw [hv2] at htv c4
          clear htv hv2
          have HS := Bx.mk (knownL_snoc (L.take i) x task worker tr)
          rw [← take_snoc hx, ← HKB.out] at HS
          obtain ⟨x1, x2, x3, x4, x5⟩ := x
          simp only at y0 y1 y2 y3 y4 HS
          have HB := Bx.mk (hB.alloc hB.size (.cells #[.int .i64 x1, .int .i64 (x2 : Int), .int .i64 x3, .int .i64 x4, .bool x5] 135))
          clear HX hx HKB hB
          cases kb
          · by_cases h1 : x1 = task
            · subst h1
              by_cases h2 : (x2 : Int) = tr
              · subst h2
                by_cases h3 : x3 = worker
                · subst h3
                  go_wp2_with fail
                  go_roundw
                  case rel => exact ⟨i + 1, by simp, by omega, ⟨_, rfl, ⟨by rw [HS.out]; simp⟩⟩, HB.out⟩
                  case measure => simp [intOf]; omega
                · have h3b : (x3 == worker) = false := by simp [h3]
                  go_wp2_with fail
                  go_roundw
                  case rel => exact ⟨i + 1, by simp, by omega, ⟨_, rfl, ⟨by rw [HS.out]; simp [h3]⟩⟩, HB.out⟩
                  case measure => simp [intOf]; omega
              · have h2b : ((x2 : Int) == tr) = false := by simp [h2]
                go_wp2_with fail
                go_roundw
                case rel => exact ⟨i + 1, by simp, by omega, ⟨_, rfl, ⟨by rw [HS.out]; simp [h2]⟩⟩, HB.out⟩
                case measure => simp [intOf]; omega
            · have h1b : (x1 == task) = false := by simp [h1]
              go_wp2_with fail
              go_roundw
              case rel => exact ⟨i + 1, by simp, by omega, ⟨_, rfl, ⟨by rw [HS.out]; simp [h1]⟩⟩, HB.out⟩
              case measure => simp [intOf]; omega
          · go_wp2_with fail
            go_roundw
            case rel => exact ⟨i + 1, by simp, by omega, ⟨_, rfl, ⟨by rw [HS.out]; simp⟩⟩, HB.out⟩
            case measure => simp [intOf]; omega
        · obtain rfl : i = m := by omega
          rw [htv] at c4
          have hkb := HKB.out
          rw [← HM.out, List.take_length, HKN.out] at hkb
          have hO := HO.out
          clear HKB HX htv
          replace hkb : kb = en.mine worker tr := hkb
          cases kb
          · rw [if_pos hkb.symm] at hO
            clear hkb HO
            go_wp2_with fail
            go_ret2
            rw [← hO]
            exact ⟨rfl, R, ⟨_, _, _, _, HH.out.later hB⟩, fun _ h => .inl h, DStep.ofBelow _ hB⟩
          · rw [if_neg (by rw [← hkb]; simp)] at hO
            by_cases hbig : 65536 < bl
            · rw [if_pos (by rw [HBL.out]; exact hbig)] at hO
              have hbigI : (65536 : Int) < (bl : Int) := by omega
              clear hkb HO
              go_wp2_with fail
              go_ret2
              rw [← hO]
              exact ⟨rfl, R, ⟨_, _, _, _, HH.out.later hB⟩, fun _ h => .inl h, DStep.ofBelow _ hB⟩
            · rw [if_neg (by rw [HBL.out]; exact hbig)] at hO
              have hbigI : ¬ (65536 : Int) < (bl : Int) := by omega
              have H1 := HH.out.later hB
              have S1 := DStep.ofBelow Y hB
              have hfq := H1.fz 2
              have c2 := H1.c2
              have hql := H1.lt
              have HO2 := Bx.mk hO
              have HH1 := Bx.mk H1
              have HS1 := Bx.mk S1
              have HW := Bx.mk hB.size
              clear hkb HO hO H1 S1 hB
              go_upto_region 18 with fail
              have X2 := HH1.out.tick t
              have S2 := HS1.out.set (b := q) (i := 2) (.inl HH1.out.yq) (.int .i64 t)
              have hsz : w2.heap.size ≤ (W.setCell ⟨q, 2, none⟩ (.int .i64 t)).heap.size := by rw [World.size_setCell]; exact HW.out
              generalize W.setCell ⟨q, 2, none⟩ (.int .i64 t) = W2 at *
              clear hfq c2 hql c4 HH1 HS1 HW
              have X2 := X2.more (R' := fun x => R x ∨ (Value.slice ba bl bc).ownBlock = some x) (fun x hx => hx.imp id (fun e => ⟨(HOFF.out x e).1, Nat.lt_of_lt_of_le (HOFF.out x e).2 hsz⟩)) (fun _ h => .inl h)
              have X2 : MX W2 q av jv tv J Y (fun x => R x ∨ (Value.slice ba bl bc).ownBlock = some x) (mdOf { D with tick := t } L) := X2
              obtain ⟨x, g, c, hx, hxj, hjv, hc, hcm, k0, k1, k2, k3, k4, k5, k6, kfz⟩ := X2.atI HK.out HTS.out
              have c3 := X2.c3
              rw [hjv] at c3
              obtain ⟨n, hn⟩ : ∃ n, D.ids.length = n := ⟨_, rfl⟩
              have hkn2 : k < n := by have := (List.getElem?_eq_some_iff.1 HK.out).1; omega
              have hjv2 : jv = .slice (some ⟨g, 0, none⟩) n c := by rw [hjv, ← hn]
              replace c3 : W2.cell? ⟨q, 3, none⟩ = some (.slice (some ⟨g, 0, none⟩) n c) := by rw [c3, ← hn]
              replace hc : n ≤ c := by have h8 : D.ids.length ≤ c := hc; omega
              have HX2 := Bx.mk X2
              have HS2 := Bx.mk S2
              have HJX := Bx.mk hx
              have HXJ := Bx.mk hxj
              have HJV := Bx.mk hjv2
              have HN := Bx.mk hn
              have hkI : (k : Int) < (n : Int) := by omega
              cases hd : en.done
              · rw [hd] at k3
                have hO := HO2.out
                rw [hd, if_neg (by simp)] at hO
                have HO3 := Bx.mk hO
                have f3 := kfz (k * 7 + 3)
                have hgl := World.block_lt_of_cell? _ _ k3
                have hkJ : k < J.length := (List.getElem?_eq_some_iff.1 hx).1
                have HKJ := Bx.mk hkJ
                clear X2 S2 hx hxj hjv hjv2 hn hO HO2 hd kfz k0 k1 k2 k4 k5 k6 hkJ
                go_upto_region 21 with fail
                have X3 := HX2.out.jobSet (j := 3) (u := .bool true) HJV.out ⟨{ x.j with ansd := true }, x.bv, x.rv⟩ HJX.out (by decide) rfl rfl rfl rfl rfl
                have S3 := HS2.out.set (b := g) (i := k * 7 + 3) (.inl (HX2.out.yj g (by rw [HJV.out]; rfl))) (.bool true)
                generalize W2.setCell ⟨g, k * 7 + 3, none⟩ (.bool true) = W3 at *
                have hx3 : (J.set k ⟨{ x.j with ansd := true }, x.bv, x.rv⟩)[k]? = some ⟨{ x.j with ansd := true }, x.bv, x.rv⟩ := List.getElem?_set_self HKJ.out
                obtain ⟨c3, cc, ff⟩ := X3.jc HJV.out hx3
                have k4 := cc 4 _ rfl
                have f4 := ff (k * 7 + 4)
                have hgl := World.block_lt_of_cell? _ _ k4
                have HX3 := Bx.mk X3
                have HS3 := Bx.mk S3
                have HJX3 := Bx.mk hx3
                clear X3 S3 hx3 cc ff k3 f3 HX2 HS2
                go_upto_region 22 with fail
                have X4 := HX3.out.jobSet (j := 4) (u := .int .i64 worker) HJV.out ⟨{ x.j with ansd := true, worker := worker }, x.bv, x.rv⟩ HJX3.out (by decide) rfl rfl rfl rfl rfl
                have S4 := HS3.out.set (b := g) (i := k * 7 + 4) (.inl (HX3.out.yj g (by rw [HJV.out]; rfl))) (.int .i64 worker)
                rw [List.set_set] at X4
                generalize W3.setCell ⟨g, k * 7 + 4, none⟩ (.int .i64 worker) = W4 at *
                have hx4 : (J.set k ⟨{ x.j with ansd := true, worker := worker }, x.bv, x.rv⟩)[k]? = some ⟨{ x.j with ansd := true, worker := worker }, x.bv, x.rv⟩ := List.getElem?_set_self HKJ.out
                clear c3 hgl
                obtain ⟨c3, cc, ff⟩ := X4.jc HJV.out hx4
                have k5 := cc 5 _ rfl
                have f5 := ff (k * 7 + 5)
                have hgl := World.block_lt_of_cell? _ _ k5
                have HX4 := Bx.mk X4
                have HS4 := Bx.mk S4
                have HJX4 := Bx.mk hx4
                clear X4 S4 hx4 cc ff k4 f4 HX3 HS3 HJX3
                go_upto_region 23 with fail
                have X5 := HX4.out.jobSet (j := 5) (u := .int .i64 tr) HJV.out ⟨{ x.j with ansd := true, worker := worker, tr := tr }, x.bv, x.rv⟩ HJX4.out (by decide) rfl rfl rfl rfl rfl
                have S5 := HS4.out.set (b := g) (i := k * 7 + 5) (.inl (HX4.out.yj g (by rw [HJV.out]; rfl))) (.int .i64 tr)
                rw [List.set_set] at X5
                generalize W4.setCell ⟨g, k * 7 + 5, none⟩ (.int .i64 tr) = W5 at *
                have hx5 : (J.set k ⟨{ x.j with ansd := true, worker := worker, tr := tr }, x.bv, x.rv⟩)[k]? = some ⟨{ x.j with ansd := true, worker := worker, tr := tr }, x.bv, x.rv⟩ := List.getElem?_set_self HKJ.out
                clear c3 hgl
                obtain ⟨c3, cc, ff⟩ := X5.jc HJV.out hx5
                have k6 := cc 6 _ rfl
                have f6 := ff (k * 7 + 6)
                have hgl := World.block_lt_of_cell? _ _ k6
                have HX5 := Bx.mk X5
                have HS5 := Bx.mk S5
                have HJX5 := Bx.mk hx5
                clear X5 S5 hx5 cc ff k5 f5 HX4 HS4 HJX4
                go_upto_region 24 with fail
                have R5 := rv_step HRV.out HS5.out (fun g hg => (HOFF.out g hg).1)
                have X6 := HX5.out.jobCell (j := 6) (u := .slice ba bl bc) HJV.out (x' := ⟨{ x.j with ansd := true, worker := worker, tr := tr, reply := b }, x.bv, .slice ba bl bc⟩) HJX5.out (by decide) rfl ⟨(HX5.out.bd _ (List.mem_of_getElem? HJX5.out)).1, by rw [HBL.out]; exact R5, fun z hz => .inr hz⟩
                have S6 := HS5.out.set (b := g) (i := k * 7 + 6) (.inl (HX5.out.yj g (by rw [HJV.out]; rfl))) (.slice ba bl bc)
                have HX6 := Bx.mk X6
                have HS6 := Bx.mk S6
                clear X6 S6 R5
                go_wp2_with fail
                go_ret2
                rw [← HO3.out]
                refine ⟨rfl, fun x => R x ∨ (Value.slice ba bl bc).ownBlock = some x, ?_, fun _ h => h, HS6.out⟩
                have hfin := mdOf_set (D := { D with tick := t }) (D' := { D with tick := t, ts := fun j => if j = task then some { en with done := true, ans := ⟨task, worker, tr, b⟩ } else D.ts j }) (L := L) HPK.out HK.out HTS.out rfl (fun _ => rfl) rfl rfl L
                have hX := HX6.out
                simp only [List.set_set, HXJ.out, jbOf_some (D := { D with tick := t }) HTS.out] at hX
                exact hX.cast hfin
              · rw [hd] at k3
                have hO := HO2.out
                rw [hd, if_pos rfl] at hO
                clear X2 S2 hx hxj hjv hjv2 hn kfz
                go_wp2_with fail
                go_ret2
                rw [← hO]
                exact ⟨rfl, _, ⟨_, _, _, _, HX2.out⟩, fun _ h => h, HS2.out⟩
  · have hO := HO.out
    rw [if_pos hr0] at hO
    clear hr
    go_wp2_with fail
    go_ret2
    rw [← hO]
    exact ⟨rfl, R, ⟨_, _, _, _, HH.out⟩, fun _ h => .inl h, DStep.refl _ _⟩
end
end Go.Proofs.Ytfdacckkdjpjhaa
