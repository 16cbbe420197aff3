/- Package pool's model: Die. -/
import Derived.Test.YtfdacckkdjpjhaaPmE
import Derived.Test.YtfdacckkdjpjhaaPlV
namespace Go.Proofs.Ytfdacckkdjpjhaa
open Go.RowKit

def Md.die (M : Md) (x t : Int) : Int × Md := if M.wrong x t ≠ 0 then (M.wrong x t, M) else if M.alive[x.toNat]? = some true then (0, { M with tick := t, alive := M.alive.set x.toNat false, tries := M.tries.map (Tr.mark x) }) else (20, M)
theorem mwrong_ok {M : Md} {x t : Int} (h : M.wrong x t = 0) : (∃ i : Nat, x = (i : Int) ∧ i < M.alive.length) ∧ 0 ≤ t ∧ t ≤ 1099511627776 ∧ M.tick ≤ t := by
  unfold Md.wrong Md.no at h
  split at h
  · cases h
  · rename_i h1
    split at h
    · cases h
    · rename_i h2
      simp only [decide_eq_true_eq, not_or] at h1
      exact ⟨⟨x.toNat, by omega, by omega⟩, by omega, by omega, by omega⟩
section
variable {q : Nat} {Y R : Nat → Prop} {M : Md}
set_option maxRecDepth 10000 in
set_option maxHeartbeats 1000000 in
theorem mdie_any (x t : Int) (w : World) (h : MAt w q Y R M) (hm : M.tries.length ≤ 1000000000) :
    Calls Try.prog 39 #[.pointer (some ⟨q, 0, none⟩), .int .i64 x, .int .i64 t] w fun e w' => e = .returned (.int .i64 (M.die x t).1) ∧ MAt w' q Y R (M.die x t).2 ∧ DStep Y Y w w' := by
  obtain ⟨av, jv, tv, J, h⟩ := h
  have HC := Bx.mk (check_any x t w h)
  obtain ⟨O, hO⟩ : ∃ O, M.die x t = O := ⟨_, rfl⟩
  rw [hO]
  unfold Md.die at hO
  obtain ⟨r, hr⟩ : ∃ r, M.wrong x t = r := ⟨_, rfl⟩
  rw [hr] at HC hO
  have HO := Bx.mk hO
  have HH := Bx.mk h
  clear hO
  go_enter Try.func39, Try.ntmps39
  go_wp2_with fail
  refine HC.out.mono ?_
  rintro e w1 ⟨rfl, rfl⟩
  by_cases hr0 : r = 0
  · subst hr0
    obtain ⟨⟨i, rfl, hil⟩, ht0, ht1, ht2⟩ := mwrong_ok hr
    have hO := HO.out
    rw [if_neg (by simp), Int.toNat_natCast, List.getElem?_eq_getElem hil] at hO
    obtain ⟨g, c, hav, hc, hcell⟩ := h.live (List.getElem?_eq_getElem hil)
    have c0 := h.c0
    rw [hav] at c0
    obtain ⟨n, hn⟩ : ∃ n, M.alive.length = n := ⟨_, rfl⟩
    rw [hn] at c0 hc
    have hi : i < n := by omega
    have hfz : w1.frozen? ⟨g, i, none⟩ = false := by
      have hr := h.al
      rw [hav] at hr
      exact hr.frozenAt i
    obtain ⟨b, hb⟩ : ∃ b, M.alive[i] = b := ⟨_, rfl⟩
    rw [hb] at hcell hO
    have HAV := Bx.mk hav
    have HO1 := Bx.mk hO
    clear hav hO hb hr
    cases b
    · have hO := HO1.out
      rw [if_neg (by simp)] at hO
      clear h hn hil
      go_wp2_with fail
      go_ret
      rw [← hO]
      exact ⟨rfl, ⟨_, _, _, _, HH.out⟩, DStep.refl _ _⟩
    · have hO := HO1.out
      rw [if_pos rfl] at hO
      have HO2 := Bx.mk hO
      have hql := h.lt
      have hfq := h.fz 2
      have c2 := h.c2
      have hqg : g ≠ q := kind_ne (h.ka (g := g) (by rw [HAV.out]; rfl)) h.kq (by decide)
      have X2 := ((HH.out.tick t).alive HAV.out (i := i) false)
      have S2 := ((DStep.refl Y w1).set (b := q) (i := 2) (.inl HH.out.yq) (.int .i64 t)).set (b := g) (i := i) (.inl (HH.out.ya g (by rw [HAV.out]; rfl))) (.bool false)
      have HX2 := Bx.mk X2
      have HS2 := Bx.mk S2
      have hgl := World.block_lt_of_cell? _ _ hcell
      obtain ⟨m, hmm⟩ : ∃ m, M.tries.length = m := ⟨_, rfl⟩
      rw [hmm] at hm
      have HMM := Bx.mk hmm
      clear h hn hil X2 S2 hO HO HO1 hmm
      go_upto_region 9 with fail
      go_loopw [8] (fun u W => ∃ k : Nat, u = .int .i64 (k : Int) ∧ k ≤ m ∧ Bx (MX W q av jv tv J Y R { M with tick := t, alive := M.alive.set i false, tries := (M.tries.take k).map (Tr.mark (i : Int)) ++ M.tries.drop k }) ∧ Bx (DStep Y Y w1 W)) (fun u _ => m - (intOf u).toNat)
      case atStart => exact ⟨0, rfl, Nat.zero_le _, by simpa using HX2, HS2⟩
      case round =>
        rename World => W
        clear HX2 HS2 hcell hfz hgl c0 c2 hfq hql
        obtain ⟨k, rfl, hk, HX, HS⟩ := hrel
        have c4 := HX.out.c4
        obtain ⟨ta, tc, htv⟩ := own_isSlice HX.out.tr
        have htv : tv = .slice ta m tc := by rw [htv, mark_len, HMM.out]
        rw [htv] at c4
        have HTV := Bx.mk htv
        by_cases hlt : k < m
        · have hltI : (k : Int) < (m : Int) := by omega
          obtain ⟨y, hy⟩ : ∃ y, M.tries[k]? = some y := ⟨_, List.getElem?_eq_getElem (by rw [HMM.out]; exact hlt)⟩
          obtain ⟨tg, tc', htv2, htc, _, _, _, y2, _, y4⟩ := HX.out.try (i := k) (x := y) (mark_at (i : Int) hy)
          rw [htv] at htv2
          injection htv2 with t1 t2 t3
          subst t1 t3
          clear t2 htv
          have hfz : W.frozen? ⟨tg, k * 5 + 4, none⟩ = false := by
            have hr := HX.out.tr
            rw [HTV.out] at hr
            obtain h9 := own_k hr
            rw [← h9] at hr
            exact hr.frozenAt _
          have htl := World.block_lt_of_cell? _ _ y4
          have htc2 : m ≤ tc := by
            have h8 : ((M.tries.take k).map (Tr.mark (i : Int)) ++ M.tries.drop k).length ≤ tc := htc
            rw [mark_len, HMM.out] at h8
            exact h8
          have HY := Bx.mk hy
          obtain ⟨yw, hyw⟩ : ∃ t, y.worker = t := ⟨_, rfl⟩
          rw [hyw] at y2
          have HYW := Bx.mk hyw
          clear hy hyw htc
          by_cases hw1 : yw = (i : Int)
          · subst hw1
            have hX7 := HX.out.tryCell (j := 4) (x := y) (x' := { y with over := true }) (u := .bool true) HTV.out (mark_at (i : Int) HY.out) (by decide) rfl
            simp only at hX7
            rw [mark_set (i : Int) HY.out HYW.out] at hX7
            have HX7 := Bx.mk hX7
            have HS7 := Bx.mk (HS.out.set (b := tg) (i := k * 5 + 4) (.inl (HX.out.yt tg (by rw [HTV.out]; rfl))) (.bool true))
            clear hX7
            go_wp2_with fail
            go_roundw
            case rel => exact ⟨k + 1, by simp, by omega, HX7, HS7⟩
            case measure => simp [intOf]; omega
          · have hwb : (yw == (i : Int)) = false := by simp [hw1]
            have hX7 := HX.out
            rw [mark_not (i : Int) HY.out (by rw [HYW.out]; exact hw1)] at hX7
            have HX7 := Bx.mk hX7
            clear hX7
            go_wp2_with fail
            go_roundw
            case rel => exact ⟨k + 1, by simp, by omega, HX7, HS⟩
            case measure => simp [intOf]; omega
        · obtain rfl : k = m := by omega
          have hX7 := HX.out
          rw [← HMM.out, List.take_length, List.drop_length, List.append_nil] at hX7
          have HX7 := Bx.mk hX7
          clear hX7 htv
          go_wp2_with fail
          go_ret
          rw [← HO2.out]
          exact ⟨rfl, ⟨_, _, _, _, HX7.out⟩, HS.out⟩
  · have hO := HO.out
    rw [if_pos hr0] at hO
    clear h hr
    go_wp2_with fail
    go_ret
    rw [← hO]
    exact ⟨rfl, ⟨_, _, _, _, HH.out⟩, DStep.refl _ _⟩
end
end Go.Proofs.Ytfdacckkdjpjhaa
