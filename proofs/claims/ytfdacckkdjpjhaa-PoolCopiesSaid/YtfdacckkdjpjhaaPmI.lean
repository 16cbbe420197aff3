/- Package pool's model: Open. -/
import Derived.Test.YtfdacckkdjpjhaaPmH
namespace Go.Proofs.Ytfdacckkdjpjhaa
open Go.RowKit

theorem take_snoc {α : Type} {l : List α} {i : Nat} {x : α} (h : l[i]? = some x) : l.take (i + 1) = l.take i ++ [x] := by rw [List.take_add_one, h]; rfl
section
variable {w : World} {q : Nat} {av jv tv : Value} {J : List JV} {Y R : Nat → Prop} {D : Pl} {L : List Tr}
/-- The job of a place. -/
theorem MX.atI (h : MX w q av jv tv J Y R (mdOf D L)) {i : Nat} {k : Int} {e : En} (hi : D.ids[i]? = some k) (he : D.ts k = some e) : ∃ x g c, J[i]? = some x ∧ x.j = jbOf D k ∧ jv = .slice (some ⟨g, 0, none⟩) D.ids.length c ∧ D.ids.length ≤ c ∧ c ≤ maxLen ∧ w.cell? ⟨g, i * 7, none⟩ = some (.int .i64 k) ∧ w.cell? ⟨g, i * 7 + 1, none⟩ = some x.bv ∧ w.cell? ⟨g, i * 7 + 2, none⟩ = some (.int .i64 (e.tries.length : Int)) ∧
    w.cell? ⟨g, i * 7 + 3, none⟩ = some (.bool e.done) ∧ w.cell? ⟨g, i * 7 + 4, none⟩ = some (.int .i64 e.ans.worker) ∧ w.cell? ⟨g, i * 7 + 5, none⟩ = some (.int .i64 e.ans.tr) ∧ w.cell? ⟨g, i * 7 + 6, none⟩ = some x.rv ∧ ∀ j, w.frozen? ⟨g, j, none⟩ = false := by
  have hj : (mdOf D L).jobs[i]? = some (jbOf D k) := by rw [mdOf_get, hi]; rfl
  obtain ⟨x, hx, hxj⟩ := h.jobAt hj
  obtain ⟨g, c, hv, hc, hm, c0, c1, c2, c3, c4, c5, c6⟩ := h.job hx
  have hl : J.length = D.ids.length := by rw [h.len, mdOf_len]
  have hr := h.jo
  rw [hv] at hr
  rw [hxj, jbOf_some he] at c0 c2 c3 c4 c5
  rw [hl] at hv hc
  exact ⟨x, g, c, hx, hxj, hv, hc, hm, c0, c1, c2, c3, c4, c5, c6, fun j => hr.frozenAt j⟩
set_option maxRecDepth 10000 in
set_option maxHeartbeats 1000000 in
theorem mopen_any (w : World) (h : MAt w q Y R (mdOf D L)) (ok : POk D) :
    Calls Try.prog 67 #[.pointer (some ⟨q, 0, none⟩)] w fun e w' => ∃ v, e = .returned v ∧ w'.ownsRow w.heap.size 3 1 v (opn D D.ids).length ((opn D D.ids).map (Value.int .i64)) ∧ Below w.heap.size w w' := by
  obtain ⟨av, jv, tv, J, h⟩ := h
  have hmany := ok.many
  have HOK := Bx.mk ok
  have HH := Bx.mk h
  obtain ⟨n, hn⟩ : ∃ n, D.ids.length = n := ⟨_, rfl⟩
  rw [hn] at hmany
  have HN := Bx.mk hn
  clear hn ok h
  go_enter Try.func67, Try.ntmps67
  go_wp2_with fail
  go_loopw [3, 4] (fun v u W => ∃ (i m : Nat) (l : List Int), u = .int .i64 (i : Int) ∧ i ≤ n ∧ Bx (l = opn D (D.ids.take i)) ∧ m ≤ i ∧ Bx (l.length = m) ∧ W.ownsRow w.heap.size 3 1 v m (l.map (Value.int .i64)) ∧ Below w.heap.size w W) (fun _ u _ => n - (intOf u).toNat)
  case atStart => exact ⟨0, 0, [], rfl, Nat.zero_le _, ⟨rfl⟩, Nat.le_refl _, ⟨rfl⟩, World.ownsRow_nil _ _ _ _, Below.refl _ _⟩
  case round =>
    rename World => W
    rename_i v _
    obtain ⟨i, m, l, rfl, hi, HL, hm, HM, hO, hB⟩ := hrel
    obtain ⟨va, vc, rfl⟩ := own_isSlice hO
    have HX := HH.out.later hB
    have c3 := HX.c3
    obtain ⟨ja, jc, hjv⟩ := own_isSlice HX.jo
    replace hjv : jv = .slice ja n jc := by rw [hjv, HX.len, mdOf_len, HN.out]
    by_cases hlt : i < n
    · have hltI : (i : Int) < (n : Int) := by omega
      obtain ⟨k, hk⟩ : ∃ k, D.ids[i]? = some k := ⟨_, List.getElem?_eq_getElem (by have := HN.out; omega)⟩
      obtain ⟨e, he⟩ := (HOK.out.mem k).1 (List.mem_of_getElem? hk)
      obtain ⟨x, g, c, _, _, hjv2, hc, hcm, k0, _, _, k3, _⟩ := HX.atI hk he
      rw [HN.out] at hjv2 hc
      rw [hjv] at hjv2
      injection hjv2 with e1 e2 e3
      subst e1 e3
      rw [hjv] at c3
      have HS := Bx.mk (opn_snoc D (D.ids.take i) k e he)
      rw [← take_snoc hk, ← HL.out] at HS
      clear hjv e2 HX hk HL
      cases hd : e.done
      · rw [hd] at k3 HS
        have O2 := hO.alloc (.cells #[.int .i64 k] 3)
        go_wp2_with (at_builtin; go_loud (refine wpList_app2 _ rfl _ _ rfl Try.elI w.heap.size (.slice va m vc) m _ rfl O2 _ 1 [.int .i64 k] rfl (Rv.one _ _ _) rfl (ones1 _ rfl) (by omega) (by have := hB.size; simp; omega) ?_; intro v5 w5 O5 g5 s5; refine later ?_))
        refine Later.in ?_
        have B5 := (hB.alloc hB.size (.cells #[.int .i64 k] 3)).grown g5 (by have := hB.size; simp; omega) (fun g hg => (hO.lt g hg).1)
        obtain ⟨a5, c5, rfl⟩ := own_isSlice O5
        have HO5 := Bx.mk O5
        have HB5 := Bx.mk B5
        clear O5 B5 g5 s5 O2 hO hB c3 k0 k3 he
        go_wp2_with fail
        go_roundw
        case rel => exact ⟨i + 1, m + 1, l ++ [k], by simp, by omega, ⟨HS.out.symm⟩, by omega, ⟨by rw [List.length_append, HM.out]; rfl⟩, by rw [List.map_append]; exact HO5.out, HB5.out⟩
        case measure => simp [intOf]; omega
      · rw [hd] at k3 HS
        go_wp2_with fail
        go_roundw
        case rel => exact ⟨i + 1, m, l, by simp, by omega, ⟨by rw [HS.out]; simp⟩, by omega, HM, hO, hB⟩
        case measure => simp [intOf]; omega
    · obtain rfl : i = n := by omega
      rw [hjv] at c3
      have hl : l = opn D D.ids := by rw [HL.out, ← HN.out, List.take_length]
      have HLL := Bx.mk hl
      clear hl hjv HX
      go_wp2_with fail
      go_ret
      refine ⟨_, rfl, ?_, hB⟩
      rw [← HLL.out, HM.out]
      exact hO
end
end Go.Proofs.Ytfdacckkdjpjhaa
