/- law31: the examples hold. -/
import Derived.Test.YtfdacckkdjpjhaaJrnI
namespace Go.Proofs.Ytfdacckkdjpjhaa
open Go.RowKit

/-- The call returns true, and nothing that lay has changed. -/
def RetT (w : World) (en : Ending) (w' : World) : Prop := en = .returned (.bool true) ∧ Below w.heap.size w w'

section
variable {P : Program} (w : World)
/-- An append behind which the slice that was appended to reads as it did. -/
theorem run_append_rd3 (base : Nat) (t ty e : TypeId) (i : TypeInfo) (z : Value) (size bytes : Nat) (ht : P.underlying t = some (.slice e)) (hi : P.info? e = some i) (hz : i.zero = some z)
    (hsize : i.size = size) (hby : i.bytes = bytes) (hzs : z.cells.size = size) (hsz : 0 < size)
    (v : Value) (n : Nat) (xs : List Value) (hown : w.ownsRow base e size v n xs)
    (y : Value) (m : Nat) (news : List Value) (hy : Rv w y m news) (hl : news.length = m * size) (h1 : ∀ u ∈ news, u.oneCell' = true)
    (h63 : n + m ≤ maxLen) (hbytes : (n + m) * bytes ≤ 140737488355328) (hbase : base ≤ w.heap.size) :
    ∃ v' w', (Builtin.append_ #[t, t] ty #[v, y]).run P w = .ok v' w' ∧ w'.ownsRow base e size v' (n + m) (xs ++ news) ∧ w.grownBy w' v.ownBlock ∧ SameOrNew w v v' ∧ Rv w' v n xs := by
  have hv0 := Rv.of_own hown
  obtain ⟨ao, cap, rfl, hmc, hcm, hnone, hrd⟩ := hy
  rcases ao with _ | a
  · have hc0 := hnone rfl
    have hm0 : m = 0 := by omega
    subst hc0; subst hm0
    have hn : news = [] := List.eq_nil_of_length_eq_zero (by simpa using hl)
    subst hn
    exact ⟨v, w, run_append_owned_none w base t ty e i size ht hi v n xs hown, by simpa using hown, World.grownBy.refl _ _, .inl rfl, hv0⟩
  · have hnews : ∀ j u, news[j]? = some u → w.cell? (a.add j) = some u := by
      intro j u hj
      obtain ⟨b, off, ha, hc⟩ := hrd.cell hj
      obtain rfl : a = ⟨b, off, none⟩ := by simpa using ha
      rw [show ((⟨b, off, none⟩ : Addr).add j) = ⟨b, off + j, none⟩ from by unfold Addr.add; split <;> simp_all]
      exact hc
    have hown0 := hown
    rcases hown.2 with ⟨rfl, rfl⟩ | ⟨g, cap0, cur, rfl, hbg, hg, hnc, hcm0, hcs, htake⟩
    · have hx : xs = [] := List.eq_nil_of_length_eq_zero (by simpa using hown.1)
      subst hx
      obtain ⟨v', w', hr, h2, h3, _⟩ := run_append_own (P := P) w w.heap.size t ty e i z size bytes ht hi hz hsize hby hzs hsz (.slice none 0 0) 0 [] (World.ownsRow_nil w _ e size) a m cap news hl hnews h1 h63 hbytes (Nat.le_refl _)
      exact ⟨v', w', hr, own_base h2 hbase, h3, .inr fun g hg => (h2.lt g hg).1, Rv.nil _⟩
    · by_cases hroom : n + m ≤ cap0
      · obtain ⟨w', hr, h2, h3⟩ := run_append_fits (P := P) w base t ty e i size ht hi hsize g n cap0 xs hown0 a m cap news hl hnews h1 hroom
        refine ⟨_, w', hr, h2, h3, .inl rfl, ⟨_, _, rfl, hnc, hcm0, (fun h => by cases h), ?_⟩⟩
        have hrv := (Rv.of_own h2).rd
        rcases (hrv.take xs.length) with h | h
        · rw [List.take_left] at h; exact .inl h
        · rw [List.take_left] at h; exact .inr h
      · have holds : ∀ j u, xs[j]? = some u → w.cell? ((⟨g, 0, none⟩ : Addr).add j) = some u := hown0.cells (g := g) rfl
        obtain ⟨v', w', hr, h2, h3⟩ := run_append_arg_grows (P := P) w t ty e i z size bytes ht hi hz hsize hby hzs hsz ⟨g, 0, none⟩ n cap0 xs hown.1 holds a m cap news hl hnews (by omega) h63 hbytes
        exact ⟨v', w', hr, own_base h2 hbase, ⟨h3.os, h3.tape, h3.output, h3.size, fun k hk _ => h3.block k hk (by simp)⟩, .inr fun g hg => (h2.lt g hg).1, rv_grown hv0 h3 (.inl rfl)⟩

theorem wpList_app3 {ops : Array Oper} {rest : List Oper} {o : Oper} {a : Act} {Q : Exit → Act → World → Prop} (hgd : o.guard = none) (s x : Operand) {t e : TypeId} {z : Value} {size bytes : Nat}
    (ho : o.op = .call { callee := .builtin .append, args := #[s, x], argTypes := #[t, t] })
    (E : Elem P t e z size bytes) (base : Nat)
    (v : Value) (n : Nat) (xs : List Value) (hs : a.eval s = v) (hown : w.ownsRow base e size v n xs)
    (y : Value) (m : Nat) (news : List Value) (hx : a.eval x = y) (hy : Rv w y m news) (hl : news.length = m * size) (h1 : ∀ u ∈ news, u.oneCell' = true)
    (hbytes : (n + m) * bytes ≤ 140737488355328) (hbase : base ≤ w.heap.size)
    (h : ∀ v' w', w'.ownsRow base e size v' (n + m) (xs ++ news) → w.grownBy w' v.ownBlock → SameOrNew w v v' → Rv w' v n xs → wpList P ops Q rest (a.put o.dst v') w') : wpList P ops Q (o :: rest) a w := by
  obtain ⟨i, hi, hz, hsize, hby⟩ := info_parts E.info
  have hle : n + m ≤ (n + m) * bytes := Nat.le_mul_of_pos_right _ E.hby
  refine wpList_plain hgd fun K hK => ?_
  obtain ⟨v', w', hr, h2, h3, h4, h5⟩ := run_append_rd3 (P := P) w base t o.type e i z size bytes E.ht hi hz hsize hby E.hzs E.hsz v n xs hown y m news hy hl h1 (by unfold maxLen; omega) hbytes hbase
  unfold Oper.wp execOp
  simp only [ho, resolve, invoke, builtin, Sem.run_bind, Sem.run_pure, Result.andThen_ok, List.map_toArray, List.map_cons, List.map_nil, hs, hx, hr]
  exact hK _ _ (h v' w' h2 h3 h4 h5)
end

theorem LsB.one {w : World} {u : Value} {x : List UInt8} (hu : Rv w u x.length (x.map vB)) (H : Nat) (hH : w.heap.size = H) : LsB (w.alloc (.cells #[u] 35)) (.slice (some ⟨H, 0, none⟩) 1 1) [x] := by
  subst hH
  refine ⟨[u], Rv.lit w [u] 35 1 (by unfold maxLen; omega), rfl, fun i hi v hv => ?_⟩
  obtain rfl : i = 0 := by simp at hi; omega
  simp only [List.getElem?_cons_zero, Option.some.injEq] at hv
  subst hv
  exact hu.below ((Below.refl _ _).alloc (Nat.le_refl _) _)

theorem core7 : coreM 0 [7] = [0, 1, 7] := by decide +kernel
theorem scan7 : scanL (frameM 0 [7] ++ [3, 0, 1]) = ([[7]], (frameM 0 [7]).length) := by
  have h := scanJ_frames [[7]] 0 [3, 0, 1] (frameM 0 [7] ++ [3, 0, 1]).length (by simp [framesM]) (by simp) (by
    rw [frameM, core7, rawW]
    have := uvar_len (bytesB frameL [0, 1, 7]).toNat
    have := uvar_len ([0, 1, 7] : List UInt8).length
    simp only [List.length_append, List.length_cons, List.length_nil] at *
    omega)
  have e : framesM 0 [[7]] = frameM 0 [7] := by rw [framesM, framesM, List.append_nil]; rfl
  rw [e] at h
  rw [scanL, h]
  have h2 : scanJ ([3, 0, 1] : List UInt8).length (0 + [[(7 : UInt8)]].length) [3, 0, 1] = ([], 0) := by
    show scanJ 3 1 [3, 0, 1] = _
    have hf : firstJ ((1 : Nat) : Int) [3, 0, 1] = none := rfl
    rw [scanJ, hf]
  rw [h2]
  simp
theorem frame7 : frameM 0 [7] = rawW [0, 1, 7] ++ uvar (bytesB frameL [0, 1, 7]).toNat ∧ 5 ≤ (frameM 0 [7]).length ∧ (frameM 0 [7]).length ≤ 20 := by
  have h1 : frameM 0 [7] = rawW [0, 1, 7] ++ uvar (bytesB frameL [0, 1, 7]).toNat := by rw [frameM, core7]
  have h2 : (rawW ([0, 1, 7] : List UInt8)).length = 4 := rfl
  have h3 := uvar_pos (bytesB frameL [0, 1, 7]).toNat
  have h4 := uvar_len (bytesB frameL [0, 1, 7]).toNat
  refine ⟨h1, ?_, ?_⟩ <;> rw [h1, List.length_append, h2] <;> omega

end Go.Proofs.Ytfdacckkdjpjhaa
