/- Package pool's model: check, Find, running, Revive. -/
import Derived.Test.YtfdacckkdjpjhaaPmA
namespace Go.Proofs.Ytfdacckkdjpjhaa
open Go.RowKit

def Md.no (M : Md) (x : Int) : Bool := decide (x < 0 ∨ (M.alive.length : Int) ≤ x)
def Md.wrong (M : Md) (x t : Int) : Int := if M.no x = true ∨ t < 0 ∨ 1099511627776 < t then 1 else if t < M.tick then 16 else 0
/-- What Find returns. -/
def Fnd (jobs : List Jb) (id r : Int) : Prop := (r = -1 ∧ ∀ j ∈ jobs, j.id ≠ id) ∨ ∃ (k : Nat) (j : Jb), r = (k : Int) ∧ jobs[k]? = some j ∧ j.id = id
section
variable {q : Nat} {av jv tv : Value} {J : List JV} {Y R : Nat → Prop} {M : Md}
set_option maxRecDepth 10000 in
theorem check_any (x t : Int) (w : World) (h : MX w q av jv tv J Y R M) :
    Calls Try.prog 68 #[.pointer (some ⟨q, 0, none⟩), .int .i64 x, .int .i64 t] w fun e w' => e = .returned (.int .i64 (M.wrong x t)) ∧ w' = w := by
  have c0 := h.c0
  have c2 := h.c2
  obtain ⟨a, c, rfl⟩ := own_isSlice h.al
  unfold Md.wrong Md.no
  obtain ⟨n, hn⟩ : ∃ n, M.alive.length = n := ⟨_, rfl⟩
  obtain ⟨k, hk⟩ : ∃ k, M.tick = k := ⟨_, rfl⟩
  rw [hn] at c0 ⊢
  rw [hk] at c2 ⊢
  clear hn hk h
  obtain ⟨r, hr⟩ : ∃ r : Int, (if decide (x < 0 ∨ (n : Int) ≤ x) = true ∨ t < 0 ∨ 1099511627776 < t then 1 else if t < k then 16 else 0) = r := ⟨_, rfl⟩
  rw [hr]
  simp only [decide_eq_true_eq] at hr
  have HR := Bx.mk hr
  clear hr
  go_enter Try.func68, Try.ntmps68
  have hr := HR.out
  by_cases h0 : x < 0
  · rw [if_pos (.inl (.inl h0))] at hr
    subst hr
    clear HR
    go_wp2
    go_ret
    exact ⟨rfl, rfl⟩
  · by_cases h00 : (n : Int) ≤ x
    · rw [if_pos (.inl (.inr h00))] at hr
      subst hr
      clear HR
      go_wp2
      go_ret
      exact ⟨rfl, rfl⟩
    · by_cases h1 : t < 0
      · rw [if_pos (.inr (.inl h1))] at hr
        subst hr
        clear HR
        go_wp2
        go_ret
        exact ⟨rfl, rfl⟩
      · by_cases h2 : 1099511627776 < t
        · rw [if_pos (.inr (.inr h2))] at hr
          subst hr
          clear HR
          go_wp2
          go_ret
          exact ⟨rfl, rfl⟩
        · rw [if_neg (by omega)] at hr
          clear HR
          by_cases h3 : t < k
          · rw [if_pos h3] at hr
            subst hr
            go_wp2
            go_ret
            exact ⟨rfl, rfl⟩
          · rw [if_neg h3] at hr
            subst hr
            go_wp2
            go_ret
            exact ⟨rfl, rfl⟩
theorem MX.get (h : ∀ j, J.map (·.j) = j → j = M.jobs) {i : Nat} {j : Jb} (hi : M.jobs[i]? = some j) : ∃ x, J[i]? = some x ∧ x.j = j := by
  have e := h _ rfl
  rw [← e, List.getElem?_map] at hi
  cases hx : J[i]? with
  | none => rw [hx] at hi; cases hi
  | some x => rw [hx] at hi; cases hi; exact ⟨x, rfl, rfl⟩
theorem MX.jobAt {w : World} (h : MX w q av jv tv J Y R M) {i : Nat} {j : Jb} (hi : M.jobs[i]? = some j) : ∃ x, J[i]? = some x ∧ x.j = j := MX.get (J := J) (M := M) (fun _ e => e ▸ h.js) hi
set_option maxRecDepth 10000 in
theorem find_any (id : Int) (w : World) (h : MX w q av jv tv J Y R M) (hm : M.jobs.length ≤ 1000000000) :
    Calls Try.prog 65 #[.pointer (some ⟨q, 0, none⟩), .int .i64 id] w fun e w' => (∃ r, e = .returned (.int .i64 r) ∧ Fnd M.jobs id r) ∧ w' = w := by
  have c3 := h.c3
  obtain ⟨a, c, hjv⟩ := own_isSlice h.jo
  obtain ⟨n, hn⟩ : ∃ n, J.length = n := ⟨_, rfl⟩
  have hl := h.len
  have HJ := Bx.mk (fun (i : Nat) (j : Jb) (hi : M.jobs[i]? = some j) => (show ∃ g, a = some ⟨g, 0, none⟩ ∧ n ≤ c ∧ w.cell? ⟨g, i * 7, none⟩ = some (.int .i64 j.id) from by
    obtain ⟨x, hx, rfl⟩ := h.jobAt hi
    obtain ⟨g, c', e, hc, _, hcell, _⟩ := h.job hx
    rw [hjv] at e
    injection e with e1 e2 e3
    exact ⟨g, e1, by omega, hcell⟩))
  rw [hjv, hn] at c3
  rw [hn] at hl
  have HL := Bx.mk hl
  have hm : n ≤ 1000000000 := by omega
  clear h hjv hn hl
  go_enter Try.func65, Try.ntmps65
  go_wp2
  go_loopw [5] (fun u wr => wr = w ∧ ∃ i : Nat, u = .int .i64 (i : Int) ∧ i ≤ n ∧ Bx (∀ k j, k < i → M.jobs[k]? = some j → j.id ≠ id)) (fun u _ => n - (intOf u).toNat)
  case atStart => exact ⟨rfl, 0, rfl, Nat.zero_le _, ⟨fun k j hk => by omega⟩⟩
  case round =>
    obtain ⟨rfl, i, rfl, hi, HI⟩ := hrel
    by_cases hlt : i < n
    · obtain ⟨j, hj⟩ : ∃ j, M.jobs[i]? = some j := ⟨_, List.getElem?_eq_getElem (by have := HL.out; omega)⟩
      obtain ⟨g, rfl, hc, hcell⟩ := HJ.out i j hj
      obtain ⟨d, hd⟩ : ∃ d, j.id = d := ⟨_, rfl⟩
      rw [hd] at hcell
      have HD := Bx.mk hd
      have HJJ := Bx.mk hj
      clear hd hj
      have hltI : (i : Int) < (n : Int) := by omega
      by_cases he : d = id
      · subst he
        go_wp2
        go_ret
        exact ⟨⟨_, rfl, .inr ⟨i, j, rfl, HJJ.out, HD.out⟩⟩, rfl⟩
      · go_wp2
        go_roundw
        case rel => exact ⟨trivial, i + 1, by simp, by omega, ⟨fun k j' hk hj' => by
          by_cases hki : k < i
          · exact HI.out k j' hki hj'
          · obtain rfl : k = i := by omega
            rw [HJJ.out] at hj'
            cases hj'
            rw [HD.out]
            exact he⟩⟩
        case measure => simp [intOf]; omega
    · obtain rfl : i = n := by omega
      go_wp2
      go_ret
      refine ⟨⟨_, rfl, .inl ⟨rfl, fun j hj => ?_⟩⟩, rfl⟩
      obtain ⟨k, hk, hkj⟩ := List.mem_iff_getElem.1 hj
      exact HI.out k j (by have := HL.out; omega) (by rw [List.getElem?_eq_getElem hk, hkj])
/-- The job of an ID is found. -/
theorem find_at {k : Nat} {j : Jb} (w : World) (h : MX w q av jv tv J Y R M) (hm : M.jobs.length ≤ 1000000000) (hk : M.jobs[k]? = some j) (hu : ∀ (i : Nat) (f : Jb), M.jobs[i]? = some f → f.id = j.id → i = k) :
    Calls Try.prog 65 #[.pointer (some ⟨q, 0, none⟩), .int .i64 j.id] w fun e w' => e = .returned (.int .i64 (k : Int)) ∧ w' = w := by
  refine (find_any j.id w h hm).mono ?_
  rintro e w' ⟨⟨r, rfl, hr⟩, rfl⟩
  rcases hr with ⟨_, hn⟩ | ⟨i, f, rfl, hi, hf⟩
  · exact absurd rfl (hn j (List.mem_of_getElem? hk))
  · rw [hu i f hi hf]
    exact ⟨rfl, rfl⟩
def Md.hot (M : Md) (j : Jb) (x : Tr) (t : Int) : Bool := !j.ansd && !x.over && decide (t < x.tick + M.tmo)
set_option maxRecDepth 20000 in
set_option maxHeartbeats 1000000 in
theorem mrunning_any (x : Tr) (t : Int) {k : Nat} {j : Jb} (w : World) (h : MX w q av jv tv J Y R M) (hm : M.jobs.length ≤ 1000000000) (hk : M.jobs[k]? = some j) (hj : j.id = x.task) (hu : ∀ (i : Nat) (f : Jb), M.jobs[i]? = some f → f.id = j.id → i = k)
    (hx : 0 ≤ x.tick ∧ x.tick ≤ 1099511627776) (ht : 1 ≤ M.tmo ∧ M.tmo ≤ 1099511627776) :
    Calls Try.prog 69 #[.pointer (some ⟨q, 0, none⟩), .agg #[.int .i64 x.task, .int .i64 (x.num : Int), .int .i64 x.worker, .int .i64 x.tick, .bool x.over], .int .i64 t] w fun e w' => e = .returned (.bool (M.hot j x t)) ∧ Below w.heap.size w w' := by
  obtain ⟨r, hr⟩ : ∃ r, M.hot j x t = r := ⟨_, rfl⟩
  rw [hr]
  unfold Md.hot at hr
  have HR := Bx.mk hr
  have B1 := (Below.refl w.heap.size w).alloc (Nat.le_refl _) (.cells #[.int .i64 x.task, .int .i64 (x.num : Int), .int .i64 x.worker, .int .i64 x.tick, .bool x.over] 135)
  have hb := World.alloc_heap_new w (.cells #[.int .i64 x.task, .int .i64 (x.num : Int), .int .i64 x.worker, .int .i64 x.tick, .bool x.over] 135)
  go_enter Try.func69, Try.ntmps69
  go_upto_region 1 with fail
  generalize w.alloc (.cells #[.int .i64 x.task, .int .i64 (x.num : Int), .int .i64 x.worker, .int .i64 x.tick, .bool x.over] 135) = w1 at *
  have h1 := h.later B1
  have HF := Bx.mk (fun W (hW : W.heap = w1.heap) => find_at W (h1.kept (w' := W) (by rw [hW]; exact Nat.le_refl _) (fun b _ => by rw [hW]) (fun b _ => by rw [hW])) hm hk hu)
  have c1 := h1.c1
  have c3 := h1.c3
  obtain ⟨y, hy, hyj⟩ := h1.jobAt hk
  obtain ⟨g, c, hjv, hc, hcm, _, _, _, k3, _⟩ := h1.job hy
  rw [hyj] at k3
  rw [hjv] at c3
  have hlt := (List.getElem?_eq_some_iff.1 hy).1
  obtain ⟨n, hn⟩ : ∃ n, J.length = n := ⟨_, rfl⟩
  rw [hn] at hc c3 hlt
  have b0 : w1.cell? ⟨w.heap.size, 0, none⟩ = some (.int .i64 x.task) := by simp [World.cell?, hb]
  have b3 : w1.cell? ⟨w.heap.size, 3, none⟩ = some (.int .i64 x.tick) := by simp [World.cell?, hb]
  have b4 : w1.cell? ⟨w.heap.size, 4, none⟩ = some (.bool x.over) := by simp [World.cell?, hb]
  have hltI : (k : Int) < (n : Int) := by omega
  rw [hj] at HF
  obtain ⟨m, hm'⟩ : ∃ m, M.tmo = m := ⟨_, rfl⟩
  rw [hm'] at c1 ht HR
  obtain ⟨tk, htk⟩ : ∃ m, x.tick = m := ⟨_, rfl⟩
  rw [htk] at b3 hx HR
  obtain ⟨o, ho⟩ : ∃ m, x.over = m := ⟨_, rfl⟩
  rw [ho] at b4 HR
  obtain ⟨a, ha⟩ : ∃ m, j.ansd = m := ⟨_, rfl⟩
  rw [ha] at k3 HR
  obtain ⟨ta, hta⟩ : ∃ m, x.task = m := ⟨_, rfl⟩
  rw [hta] at b0 HF
  have hw : IntKind.i64.wrap (tk + m) = tk + m := by rw [IntKind.wrap_i64]; omega
  have hwk : IntKind.i64.wrap (k : Int) = (k : Int) := by rw [IntKind.wrap_i64]; unfold maxLen at hcm; omega
  clear h h1 hb hy hyj hjv hn hr hm' htk ho ha hta hu hk hj
  cases a
  · cases o
    · go_quiet ((go_at_call 65; exact Calls.quiet_of_same (HF.out _ rfl)))
      go_wp2_with fail
      go_ret
      rw [← HR.out]
      exact ⟨rfl, belD B1 nq⟩
    · go_quiet ((go_at_call 65; exact Calls.quiet_of_same (HF.out _ rfl)))
      go_wp2_with fail
      go_ret
      rw [← HR.out]
      exact ⟨rfl, belD B1 nq⟩
  · go_quiet ((go_at_call 65; exact Calls.quiet_of_same (HF.out _ rfl)))
    go_wp2_with fail
    go_ret
    rw [← HR.out]
    exact ⟨rfl, belD B1 nq⟩
end
end Go.Proofs.Ytfdacckkdjpjhaa
