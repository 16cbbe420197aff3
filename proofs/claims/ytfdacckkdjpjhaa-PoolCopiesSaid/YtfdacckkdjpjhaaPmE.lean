/- Package pool's model: Revive. -/
import Derived.Test.YtfdacckkdjpjhaaPmD
namespace Go.Proofs.Ytfdacckkdjpjhaa
open Go.RowKit

def Md.revive (M : Md) (x : Int) : Int × Md := if M.no x = true then (1, M) else if M.alive[x.toNat]? = some true then (20, M) else (0, { M with alive := M.alive.set x.toNat true })
section
variable {q : Nat} {Y R : Nat → Prop} {M : Md}
set_option maxRecDepth 10000 in
theorem mrevive_any (x : Int) (w : World) (h : MAt w q Y R M) :
    Calls Try.prog 41 #[.pointer (some ⟨q, 0, none⟩), .int .i64 x] w fun e w' => e = .returned (.int .i64 (M.revive x).1) ∧ MAt w' q Y R (M.revive x).2 ∧ DStep Y Y w w' := by
  obtain ⟨av, jv, tv, J, h⟩ := h
  have c0 := h.c0
  obtain ⟨a, c, hav⟩ := own_isSlice h.al
  obtain ⟨n, hn⟩ : ∃ n, M.alive.length = n := ⟨_, rfl⟩
  rw [hav, hn] at c0
  obtain ⟨O, hO⟩ : ∃ O, M.revive x = O := ⟨_, rfl⟩
  rw [hO]
  unfold Md.revive Md.no at hO
  rw [hn] at hO
  have HO := Bx.mk hO
  have HH := Bx.mk h
  clear hO
  go_enter Try.func41, Try.ntmps41
  by_cases h0 : x < 0
  · have hO := HO.out
    rw [if_pos (decide_eq_true (.inl h0))] at hO
    clear h hn hav
    go_wp2
    go_ret
    rw [← hO]
    exact ⟨rfl, ⟨_, _, _, _, HH.out⟩, DStep.refl _ _⟩
  · by_cases h1 : (n : Int) ≤ x
    · have hO := HO.out
      rw [if_pos (decide_eq_true (.inr h1))] at hO
      clear h hn hav
      go_wp2
      go_ret
      rw [← hO]
      exact ⟨rfl, ⟨_, _, _, _, HH.out⟩, DStep.refl _ _⟩
    · obtain ⟨i, rfl⟩ : ∃ i : Nat, x = (i : Int) := ⟨x.toNat, by omega⟩
      have hi : i < n := by omega
      have hil : i < M.alive.length := by omega
      have hO := HO.out
      rw [if_neg (by simp; omega), Int.toNat_natCast, List.getElem?_eq_getElem hil] at hO
      obtain ⟨g, c', hv, hc, hcell⟩ := h.live (List.getElem?_eq_getElem hil)
      rw [hav] at hv
      injection hv with v1 v2 v3
      subst v1 v3
      have hfz : w.frozen? ⟨g, i, none⟩ = false := by
        have hr := h.al
        rw [hav] at hr
        exact hr.frozenAt i
      have hgl := World.block_lt_of_cell? _ _ hcell
      obtain ⟨b, hb⟩ : ∃ b, M.alive[i] = b := ⟨_, rfl⟩
      rw [hb] at hcell hO
      rw [hn] at hc
      have HAV := Bx.mk hav
      clear h hn hav v2 hb hil
      cases b
      · rw [if_neg (by simp)] at hO
        go_wp2
        go_ret
        rw [← hO]
        exact ⟨rfl, ⟨_, _, _, _, HH.out.alive HAV.out true⟩, (DStep.refl Y w).set (.inl (HH.out.ya g (by rw [HAV.out]; rfl))) _⟩
      · rw [if_pos rfl] at hO
        go_wp2
        go_ret
        rw [← hO]
        exact ⟨rfl, ⟨_, _, _, _, HH.out⟩, DStep.refl _ _⟩
end
end Go.Proofs.Ytfdacckkdjpjhaa
