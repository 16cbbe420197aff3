/- Package pool's model: Add. -/
import Derived.Test.YtfdacckkdjpjhaaPmK
namespace Go.Proofs.Ytfdacckkdjpjhaa
open Go.RowKit

theorem Try.infoJb : (Try.prog.info? 133).map (fun i => (i.zero, i.size, i.bytes)) = some (some (.agg #[.int .i64 0, .slice none 0 0, .int .i64 0, .bool false, .int .i64 0, .int .i64 0, .slice none 0 0]), 7, 88) := by kernel_rfl
theorem Try.elJb : Elem Try.prog 127 133 (.agg #[.int .i64 0, .slice none 0 0, .int .i64 0, .bool false, .int .i64 0, .int .i64 0, .slice none 0 0]) 7 88 := ⟨Try.underlying127, Try.infoJb, rfl, by decide, by decide⟩
theorem flat_take {α : Type} (f : α → List Value) (n : Nat) (hf : ∀ x, (f x).length = n) : ∀ (l : List α) (k : Nat), (l.flatMap f).take (k * n) = (l.take k).flatMap f
  | [], _ => by simp
  | x :: l, 0 => by simp
  | x :: l, k + 1 => by
    rw [List.flatMap_cons, List.take_succ_cons, List.flatMap_cons, ← flat_take f n hf l k, Nat.succ_mul, List.take_append, hf, List.take_of_length_le (by rw [hf]; omega), show k * n + n - n = k * n by omega]
theorem flat_drop {α : Type} (f : α → List Value) (n : Nat) (hf : ∀ x, (f x).length = n) : ∀ (l : List α) (k : Nat), (l.flatMap f).drop (k * n) = (l.drop k).flatMap f
  | [], _ => by simp
  | x :: l, 0 => by simp
  | x :: l, k + 1 => by
    rw [List.flatMap_cons, List.drop_succ_cons, ← flat_drop f n hf l k, Nat.succ_mul, List.drop_append, hf, List.drop_of_length_le (by rw [hf]; omega), show k * n + n - n = k * n by omega]
    rfl
theorem ones_flat {α : Type} (f : α → List Value) (l : List α) (hf : ∀ x ∈ l, ∀ u ∈ f x, u.oneCell' = true) : ∀ u ∈ l.flatMap f, u.oneCell' = true := fun u hu => by
  obtain ⟨x, hl, hx⟩ := List.mem_flatMap.1 hu
  exact hf x hl u hx
theorem MX.ones {w : World} {q : Nat} {av jv tv : Value} {J : List JV} {Y R : Nat → Prop} {M : Md} (h : MX w q av jv tv J Y R M) : ∀ x ∈ J, ∀ u ∈ x.cells, u.oneCell' = true := fun x hx u hu => by
  obtain ⟨a1, c1, e1, _⟩ := (h.bd x hx).1.1.opened
  obtain ⟨a2, c2, e2, _⟩ := (h.bd x hx).2.1.opened
  simp only [JV.cells, List.mem_cons, List.not_mem_nil, or_false] at hu
  rcases hu with rfl | rfl | rfl | rfl | rfl | rfl | rfl
  · rfl
  · rw [e1]; rfl
  · rfl
  · rfl
  · rfl
  · rfl
  · rw [e2]; rfl
/-- The first elements of a row. -/
theorem Rv.head {w : World} {ao : Option Addr} {n c : Nat} {us : List Value} (h : Rv w (.slice ao n c) n us) (k s : Nat) (hk : k ≤ n) : Rv w (.slice ao k c) k (us.take (k * s)) := by
  obtain ⟨a, c', e, h1, h2, h3, h4⟩ := h
  cases e
  exact ⟨_, _, rfl, by omega, h2, h3, h4.take _⟩
section
variable {q : Nat} {Y R : Nat → Prop} {D : Pl} {L : List Tr}
set_option maxRecDepth 20000 in
set_option maxHeartbeats 4000000 in
theorem madd_any (id : Int) (bv : Value) (b : List UInt8) (w : World) (h : MAt w q Y R (mdOf D L)) (ok : POk D) (hb : Rv w bv b.length (b.map vB)) (hbl : b.length ≤ 1000000000) (hoff : ∀ g, bv.ownBlock = some g → ¬ Y g ∧ g < w.heap.size) :
    Calls Try.prog 35 #[.pointer (some ⟨q, 0, none⟩), .int .i64 id, bv] w fun e w' => e = .returned (.int .i64 (D.add id b).1) ∧ ∃ Y' R', MAt w' q Y' R' (mdOf (D.add id b).2 L) ∧ (∀ x, R' x → R x ∨ bv.ownBlock = some x) ∧ DStep Y Y' w w' := by
  obtain ⟨av, jv, tv, J, h⟩ := h
  have HF := Bx.mk (find_any id w h (by rw [mdOf_len]; have := ok.many; omega))
  obtain ⟨O, hO⟩ : ∃ O, D.add id b = O := ⟨_, rfl⟩
  rw [hO]
  unfold Pl.add at hO
  obtain ⟨ba, bc, rfl, hbc, _⟩ := hb.opened
  have c3 := h.c3
  obtain ⟨ja, jc, hjv⟩ := own_isSlice h.jo
  obtain ⟨n, hn⟩ : ∃ n, D.ids.length = n := ⟨_, rfl⟩
  replace hjv : jv = .slice ja n jc := by rw [hjv, h.len, mdOf_len, hn]
  rw [hjv] at c3
  have hn1024 : n ≤ 1024 := by have := ok.many; omega
  have hjrv : Rv w (.slice ja n jc) n (jcells J) := by
    have := Rv.of_own h.jo
    rw [h.len, mdOf_len, hn, hjv] at this
    exact this
  have hjc : n ≤ jc := by
    obtain ⟨_, _, e, hc, _⟩ := hjrv
    cases e
    exact hc
  have HJR := Bx.mk hjrv
  have HO := Bx.mk hO
  have HH := Bx.mk h
  have HOK := Bx.mk ok
  have HRV := Bx.mk hb
  have HOFF := Bx.mk hoff
  have HN := Bx.mk hn
  have HJV := Bx.mk hjv
  obtain ⟨bl, hbl'⟩ : ∃ n, b.length = n := ⟨_, rfl⟩
  rw [hbl'] at hbl hbc HRV HOFF
  rw [hbl']
  have HBL := Bx.mk hbl'
  clear hO h ok hb hoff hbl' hn hjv hjrv
  go_enter Try.func35, Try.ntmps35
  by_cases h0 : id < 0
  · have hO := HO.out
    rw [if_pos h0] at hO
    clear HO
    go_wp2_with fail
    go_ret
    rw [← hO]
    exact ⟨rfl, Y, R, ⟨_, _, _, _, HH.out⟩, fun _ h => .inl h, DStep.refl _ _⟩
  · have hO := HO.out
    rw [if_neg h0, HBL.out, HN.out] at hO
    have HO1 := Bx.mk hO
    clear HO hO
    by_cases h1 : 65536 < bl
    · have hO := HO1.out
      rw [if_pos (.inl h1)] at hO
      have h1I : (65536 : Int) < (bl : Int) := by omega
      clear HO1
      go_wp2_with fail
      go_ret
      rw [← hO]
      exact ⟨rfl, Y, R, ⟨_, _, _, _, HH.out⟩, fun _ h => .inl h, DStep.refl _ _⟩
    · have h1I : ¬ (65536 : Int) < (bl : Int) := by omega
      by_cases h2 : 1024 ≤ n
      · have hO := HO1.out
        rw [if_pos (.inr h2)] at hO
        have h2I : (1024 : Int) ≤ (n : Int) := by omega
        clear HO1
        go_wp2_with fail
        go_ret
        rw [← hO]
        exact ⟨rfl, Y, R, ⟨_, _, _, _, HH.out⟩, fun _ h => .inl h, DStep.refl _ _⟩
      · have h2I : ¬ (1024 : Int) ≤ (n : Int) := by omega
        have hO := HO1.out
        rw [if_neg (by omega)] at hO
        have HO2 := Bx.mk hO
        clear HO1 hO
        go_wp2_with fail
        refine HF.out.mono ?_
        rintro e w2 ⟨⟨f, rfl, hf⟩, hw2⟩
        subst hw2
        cases hts : D.ts id with
        | some en =>
          have hO := HO2.out
          rw [hts] at hO
          obtain ⟨k, rfl, _⟩ := fnd_some HOK.out hts hf
          clear hts HF HO2 hf
          go_wp2_with fail
          go_ret
          rw [← hO]
          exact ⟨rfl, Y, R, ⟨_, _, _, _, HH.out⟩, fun _ h => .inl h, DStep.refl _ _⟩
        | none =>
          have hO := HO2.out
          rw [hts] at hO
          obtain rfl := fnd_none HOK.out hts hf
          have HO3 := Bx.mk hO
          have HTS := Bx.mk hts
          clear hts HF HO2 hf hO
          go_wp2_with fail
          go_loopw [7] (fun u W => ∃ k : Nat, u = .int .i64 (k : Int) ∧ k ≤ n ∧ Bx (∀ j y, j < k → D.ids[j]? = some y → y < id) ∧ Below w2.heap.size w2 W) (fun u _ => n - (intOf u).toNat)
          case atStart => exact ⟨0, rfl, Nat.zero_le _, ⟨fun j y hj => by omega⟩, Below.refl _ _⟩
          case round =>
            rename World => W
            obtain ⟨k, rfl, hk, HLT, hB⟩ := hrel
            have c3 := (hB.cell (p := ⟨q, 3, none⟩) (World.block_lt_of_cell? _ _ c3)).trans c3
            have HX := HH.out.later hB
            by_cases hgo : ∃ y, D.ids[k]? = some y ∧ y < id
            · obtain ⟨y, hy, hyl⟩ := hgo
              have hlt : k < n := by have := (List.getElem?_eq_some_iff.1 hy).1; have := HN.out; omega
              have hltI : (k : Int) < (n : Int) := by omega
              obtain ⟨e, he⟩ := (HOK.out.mem y).1 (List.mem_of_getElem? hy)
              obtain ⟨x, g, c, _, _, hjv2, hc, hcm, k0, _⟩ := HX.atI hy he
              rw [HN.out] at hjv2 hc
              rw [HJV.out] at hjv2
              injection hjv2 with e1 e2 e3
              subst e1 e3
              have HY := Bx.mk hy
              clear e2 he hy HX
              go_wp2_with fail
              go_roundw
              case rel => exact ⟨k + 1, by simp, by omega, ⟨fun j z hj hz => by
                by_cases q : j < k
                · exact HLT.out j z q hz
                · obtain rfl : j = k := by omega
                  rw [HY.out] at hz
                  cases hz
                  exact hyl⟩, hB⟩
              case measure => simp [intOf]; omega
            · have HGT : Bx (∀ y, D.ids[k]? = some y → id < y) := ⟨fun y hy => by
                by_cases q : y < id
                · exact absurd ⟨y, hy, q⟩ hgo
                · have hne : id ≠ y := fun q => by
                    obtain ⟨e, he⟩ := (HOK.out.mem y).1 (List.mem_of_getElem? hy)
                    have h9 := HTS.out
                    rw [q, he] at h9
                    cases h9
                  omega⟩
              have HXX := Bx.mk HX
              have HBB := Bx.mk hB
              have HRW := Bx.mk (HJR.out.below hB)
              clear hgo
              by_cases hlt : k < n
              case' pos =>
                have hltI : (k : Int) < (n : Int) := by omega
                obtain ⟨y, hy⟩ : ∃ y, D.ids[k]? = some y := ⟨_, List.getElem?_eq_getElem (by have := HN.out; omega)⟩
                obtain ⟨e, he⟩ := (HOK.out.mem y).1 (List.mem_of_getElem? hy)
                obtain ⟨x, g, c, _, _, hjv2, hc, hcm, k0, _⟩ := HX.atI hy he
                rw [HN.out] at hjv2 hc
                rw [HJV.out] at hjv2
                injection hjv2 with e1 e2 e3
                have C3 := Bx.mk c3
                rw [e1, e3] at c3
                rw [← e3] at hc
                clear e1
                rw [e3] at hc
                clear e3
                have hyl : ¬ y < id := by have := HGT.out y hy; omega
                clear e2 he hy HX hB
                go_upto_region 10 with fail
                replace c3 := C3.out
                clear C3 k0 hc hcm hltI hyl hlt
              case' neg =>
                have hltI : ¬ (k : Int) < (n : Int) := by omega
                clear HX hB
                go_upto_region 10 with fail
                clear hltI hlt
              all_goals
                have hJl : J.length = n := by rw [HH.out.len, mdOf_len, HN.out]
                have R1 := HRW.out.head k 7 hk
                have RR := Bx.mk HRW.out
                unfold jcells at R1
                rw [flat_take JV.cells 7 jlen] at R1
                have HJL := Bx.mk hJl
                have ONE := Bx.mk HXX.out.ones
                have C3W := Bx.mk c3
                have hjc2 : k ≤ jc := by omega
                clear hJl
                go_upto_region 11 with fail
                go_wp2_with (at_builtin; go_loud (refine wpList_app2 _ rfl _ _ rfl Try.elJb W.heap.size (.slice none 0 0) 0 [] rfl (World.ownsRow_nil _ _ _ _) (.slice ja k jc) k _ rfl R1 (by rw [flat_len JV.cells 7 jlen, List.length_take, HJL.out]; omega) (ones_flat JV.cells _ (fun x hx => ONE.out x (List.mem_of_mem_take hx))) (by omega) (Nat.le_refl _) ?_; intro v5 w5 O5 g5 s5; refine later ?_))
                refine Later.in ?_
                have B5 := (Below.refl W.heap.size W).grown g5 (Nat.le_refl _) (fun g hg => by cases hg)
                rw [Nat.zero_add, List.nil_append] at O5
                obtain ⟨a5, c5, rfl⟩ := own_isSlice O5
                have c3 := (B5.cell (p := ⟨q, 3, none⟩) (World.block_lt_of_cell? _ _ c3)).trans c3
                have O6 := O5.alloc (.cells #[.int .i64 id, .slice ba bl bc, .int .i64 0, .bool false, .int .i64 0, .int .i64 0, .slice none 0 0] 133)
                have hone := Rv.lit w5 [.int .i64 id, .slice ba bl bc, .int .i64 0, .bool false, .int .i64 0, .int .i64 0, .slice none 0 0] 133 1 (by decide)
                have B6 := B5.alloc B5.size (.cells #[.int .i64 id, .slice ba bl bc, .int .i64 0, .bool false, .int .i64 0, .int .i64 0, .slice none 0 0] 133)
                have HB6 := Bx.mk B6
                have c36 := (((Below.refl w5.heap.size w5).alloc (Nat.le_refl _) (.cells #[.int .i64 id, .slice ba bl bc, .int .i64 0, .bool false, .int .i64 0, .int .i64 0, .slice none 0 0] 133)).cell (p := ⟨q, 3, none⟩) (World.block_lt_of_cell? _ _ c3)).trans c3
                clear g5 s5 O5 R1 B6
                go_upto_region 12 with fail
                go_wp2_with (at_builtin; go_loud (refine wpList_app2 _ rfl _ _ rfl Try.elJb W.heap.size (.slice a5 k c5) k _ rfl O6 (.slice (some ⟨w5.heap.size, 0, none⟩) 1 1) 1 [.int .i64 id, .slice ba bl bc, .int .i64 0, .bool false, .int .i64 0, .int .i64 0, .slice none 0 0] rfl hone rfl (by intro u hu; simp at hu; rcases hu with rfl | rfl | rfl | rfl | rfl | rfl | rfl <;> rfl) (by omega) (by have := HB6.out.size; exact this) ?_; intro v7 w7 O7 g7 s7; refine later ?_))
                refine Later.in ?_
                have B7 := HB6.out.grown g7 HB6.out.size (fun g hg => (O6.lt g hg).1)
                obtain ⟨a7, c7, rfl⟩ := own_isSlice O7
                have HB7 := Bx.mk B7
                have c37 := (B7.cell (p := ⟨q, 3, none⟩) (World.block_lt_of_cell? _ _ C3W.out)).trans C3W.out
                obtain ⟨a', c', e1, _, R7⟩ := (RR.out.below B7).sliced 7 k n hk (Nat.le_refl _)
                cases e1
                unfold jcells at R7
                rw [flat_drop JV.cells 7 jlen, List.take_of_length_le (by rw [flat_len JV.cells 7 jlen, List.length_drop, HJL.out]; exact Nat.le_refl _)] at R7
                have q3 : w7.frozen? ⟨q, 3, none⟩ = false := by
                  have := (B7.block q (World.block_lt_of_cell? _ _ C3W.out)).trans HXX.out.blk
                  unfold mdO at this
                  simp [World.frozen?, this]
                clear g7 s7 O6 c3 c36 hone B7
                have hlen : ((J.drop k).flatMap JV.cells).length = (n - k) * 7 := by rw [flat_len JV.cells 7 jlen, List.length_drop, HJL.out]
                have hones := ones_flat JV.cells (J.drop k) (fun x hx => ONE.out x (List.mem_of_mem_drop hx))
                have HLN := Bx.mk hlen
                have HONS := Bx.mk hones
                clear hlen hones
                go_wp2_with (at_builtin; go_loud (refine wpList_app2 _ rfl _ _ rfl Try.elJb W.heap.size (.slice a7 (k + 1) c7) (k + 1) _ rfl O7 _ (n - k) _ rfl R7 HLN.out HONS.out (by omega) (by have := HB7.out.size; exact this) ?_; intro v8 w8 O8 g8 s8; refine later ?_))
                all_goals
                  refine Later.in ?_
                  have B8 := HB7.out.grown g8 HB7.out.size (fun g hg => (O7.lt g hg).1)
                  obtain ⟨k8, a8, c8, rfl⟩ := own_shape O8
                  have hqn : ∀ g, (Value.slice a8 k8 c8).ownBlock = some g → g ≠ q := fun g hg e => by
                    have h1 := (O8.lt g hg).1
                    have h2 := World.block_lt_of_cell? _ _ C3W.out
                    have h3 : q < W.heap.size := h2
                    omega
                  have hb8 := (B8.block q (World.block_lt_of_cell? _ _ C3W.out)).trans HXX.out.blk
                  have q38 : w8.frozen? ⟨q, 3, none⟩ = false := by
                    unfold mdO at hb8
                    simp [World.frozen?, hb8]
                  obtain ⟨u8, c38⟩ : ∃ u, w8.cell? ⟨q, 3, none⟩ = some u := by
                    unfold mdO at hb8
                    exact ⟨_, by simp [World.cell?, hb8]; rfl⟩
                  have hq8 := World.block_lt_of_cell? _ _ c38
                  have HO8 := Bx.mk O8
                  have HB8 := Bx.mk B8
                  have HBK := Bx.mk hb8
                  have HQN := Bx.mk hqn
                  clear g8 s8 O7 O8 B8 hb8 hqn c37 R7 q3
                  go_wp2_with fail
                  go_ret
                  rw [← HO3.out]
                  have hJ' : (J.take k ++ (⟨⟨id, b, 0, false, 0, 0, []⟩, .slice ba bl bc, .slice none 0 0⟩ : JV) :: J.drop k).map (·.j) = (mdOf D L).jobs.take k ++ ⟨id, b, 0, false, 0, 0, []⟩ :: (mdOf D L).jobs.drop k := by
                    rw [List.map_append, List.map_cons, List.map_take, List.map_drop, HXX.out.js]
                  have hJl : (J.take k ++ (⟨⟨id, b, 0, false, 0, 0, []⟩, .slice ba bl bc, .slice none 0 0⟩ : JV) :: J.drop k).length = k + 1 + (n - k) := by
                    rw [List.length_append, List.length_cons, List.length_take, List.length_drop, HJL.out]
                    omega
                  have R8 : Rv (w8.setCell ⟨q, 3, none⟩ (.slice a8 k8 c8)) (.slice ba bl bc) bl (b.map vB) := rvSame (HRV.out.below (HBB.out.trans (HB8.out.mono HBB.out.size))) (fun g hg hv => Below.heap_setCell _ _ _ _ (fun e => by have e2 : g = q := e; exact (HOFF.out g hv).1 (e2 ▸ HXX.out.yq)))
                  have X9 := HXX.out.turnJ (w' := w8.setCell ⟨q, 3, none⟩ (.slice a8 k8 c8)) (jv' := .slice a8 k8 c8) (J' := J.take k ++ (⟨⟨id, b, 0, false, 0, 0, []⟩, .slice ba bl bc, .slice none 0 0⟩ : JV) :: J.drop k) (R' := fun x => R x ∨ (Value.slice ba bl bc).ownBlock = some x) (by rw [World.size_setCell]; exact HB8.out.size)
                    (l := (mdOf D L).jobs.take k ++ ⟨id, b, 0, false, 0, 0, []⟩ :: (mdOf D L).jobs.drop k) (by
                      have := HBK.out
                      unfold mdO at this ⊢
                      simp [World.setCell, Array.getElem?_modify, this]) (by
                      rw [hJl]
                      have h := own_base HO8.out (Nat.zero_le _)
                      have h2 := own_same (w' := w8.setCell ⟨q, 3, none⟩ (.slice a8 k8 c8)) h (fun g hg => Below.heap_setCell _ _ _ _ (HQN.out g hg))
                      unfold jcells
                      rw [List.flatMap_append, List.flatMap_cons]
                      rw [List.append_assoc] at h2
                      exact h2) hJ' (fun b hb hn => (Below.heap_setCell _ _ _ _ hn).trans (HB8.out.block b hb))
                    (fun x hx => hx.imp (fun h => h) (fun e => ⟨(HOFF.out x e).1, Nat.lt_of_lt_of_le (HOFF.out x e).2 HBB.out.size⟩)) (fun _ h => .inl h) (fun x hx => by
                      rcases List.mem_append.1 hx with h | h
                      · exact .inl (List.mem_of_mem_take h)
                      · rcases List.mem_cons.1 h with rfl | h
                        · exact .inr ⟨⟨by show Rv _ _ b.length _; rw [HBL.out]; exact R8, fun z hz => .inr hz⟩, Rv.nil _, fun z hz => by cases hz⟩
                        · exact .inl (List.mem_of_mem_drop h)) (fun g hg => (HO8.out.lt g hg).1)
                  have S9 := (DStep.ofBelow Y HBB.out).trans (((DStep.ofBelow Y HB8.out).set (b := q) (i := 3) (.inl HXX.out.yq) (.slice a8 k8 c8)).weak (X2 := fun b => Y b ∨ av.ownBlock = some b ∨ (Value.slice a8 k8 c8).ownBlock = some b ∨ tv.ownBlock = some b) (fun b hb => by
                    rcases hb with hb | hb | hb | hb
                    · exact .inl hb
                    · exact .inl (HXX.out.ya b hb)
                    · exact .inr (HO8.out.lt b hb).1
                    · exact .inl (HXX.out.yt b hb)))
                  exact ⟨rfl, _, _, X9.cast (mdOf_add L HOK.out HTS.out (by rw [HN.out]; exact hk) HLT.out HGT.out), fun _ h => h, S9⟩
end
end Go.Proofs.Ytfdacckkdjpjhaa
