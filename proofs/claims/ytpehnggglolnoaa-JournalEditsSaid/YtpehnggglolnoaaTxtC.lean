/- Package text: Lines; the model's generator of texts. -/
import Derived.Test.YtpehnggglolnoaaTxtB
import Derived.Test.YtpehnggglolnoaaRefA
import Derived.Test.YtpehnggglolnoaaWire
namespace Go.Proofs.Ytpehnggglolnoaa
open Go.RowKit

/-- The positions at which lines begin, from position k on. -/
def lnsFrom (k : Nat) : List Int → List Int
  | [] => []
  | c :: cs => if c = 10 then ((k + 1 : Nat) : Int) :: lnsFrom (k + 1) cs else lnsFrom (k + 1) cs
def lns (l : List Int) : List Int := 0 :: lnsFrom 0 l
theorem lnsFrom_snoc (k : Nat) (l : List Int) (c : Int) : lnsFrom k (l ++ [c]) = lnsFrom k l ++ (if c = 10 then [((k + l.length + 1 : Nat) : Int)] else []) := by
  induction l generalizing k with
  | nil => simp [lnsFrom]
  | cons d l ih =>
    rw [List.cons_append, lnsFrom, lnsFrom, ih (k + 1), List.length_cons, show k + 1 + l.length + 1 = k + (l.length + 1) + 1 from by omega]
    split <;> rfl
theorem lnsFrom_len (k : Nat) (l : List Int) : (lnsFrom k l).length ≤ l.length := by
  induction l generalizing k with
  | nil => simp [lnsFrom]
  | cons d l ih =>
    rw [lnsFrom]
    have := ih (k + 1)
    split <;> simp <;> omega
theorem lns_snoc (l : List Int) (i : Nat) (h : i < l.length) : lns (l.take (i + 1)) = lns (l.take i) ++ (if l[i] = 10 then [((i + 1 : Nat) : Int)] else []) := by
  rw [List.take_succ_eq_append_getElem h, lns, lnsFrom_snoc, List.length_take, Nat.min_eq_left (Nat.le_of_lt h), Nat.zero_add]
  rfl

theorem own_lit (w : World) (us : List Value) (e : TypeId) (size n : Nat) (hn : us.length = n * size) (hm : n ≤ maxLen) : (w.alloc (.cells us.toArray e)).ownsRow w.heap.size e size (.slice (some ⟨w.heap.size, 0, none⟩) n n) n us :=
  ⟨hn, .inr ⟨w.heap.size, n, us.toArray, rfl, Nat.le_refl _, World.alloc_heap_new w _, Nat.le_refl _, hm, by simpa using hn, by rw [← hn]; simp⟩⟩

theorem rv_litH (w : World) (us : List Value) (e : TypeId) (n : Nat) (hm : n ≤ maxLen) (H : Nat) (hH : w.heap.size = H) : Rv (w.alloc (.cells us.toArray e)) (.slice (some ⟨H, 0, none⟩) n n) n us := by
  subst hH
  exact Rv.lit w us e n hm
def tabA : List Int := [97, 98, 99, 97, 90, 48, 95, 10, 32, 98, 228, 255, 0, 128]
def tabB : List Int := [127, 128, 2047, 2048, 55295, 57344, 65535, 65536, 1114111, 8364]
/-- The symbol that the generator makes of a number. -/
def symOf (runes : Bool) (x : Int) : Int :=
  let n := (around x 1048576).toNat
  if runes && n / 14 % 4 == 0 then tabB.getD (n / 56 % 10) 0 else tabA.getD (n % 14) 0
def textM (l : List Int) (most : Nat) (runes : Bool) : List Int := (l.take most).map (symOf runes)
theorem symOf_ok (runes : Bool) (x : Int) : symB runes (symOf runes x) = true := by
  have hA : ∀ j, j < 14 → symB runes (tabA.getD j 0) = true := by
    intro j hj
    have h : j = 0 ∨ j = 1 ∨ j = 2 ∨ j = 3 ∨ j = 4 ∨ j = 5 ∨ j = 6 ∨ j = 7 ∨ j = 8 ∨ j = 9 ∨ j = 10 ∨ j = 11 ∨ j = 12 ∨ j = 13 := by omega
    cases runes <;> rcases h with rfl | rfl | rfl | rfl | rfl | rfl | rfl | rfl | rfl | rfl | rfl | rfl | rfl | rfl <;> rfl
  have hB : ∀ j, j < 10 → symB true (tabB.getD j 0) = true := by
    intro j hj
    have h : j = 0 ∨ j = 1 ∨ j = 2 ∨ j = 3 ∨ j = 4 ∨ j = 5 ∨ j = 6 ∨ j = 7 ∨ j = 8 ∨ j = 9 := by omega
    rcases h with rfl | rfl | rfl | rfl | rfl | rfl | rfl | rfl | rfl | rfl <;> rfl
  unfold symOf
  simp only
  split
  · rename_i h
    cases runes
    · simp at h
    · exact hB _ (Nat.mod_lt _ (by omega))
  · exact hA _ (Nat.mod_lt _ (by omega))
theorem tab_cell (w : World) (us : List Int) (e : TypeId) (j : Nat) (hj : j < us.length) : (w.alloc (.cells (us.map (Value.int .i64)).toArray e)).cell? ⟨w.heap.size, j, none⟩ = some (.int .i64 (us.getD j 0)) := by
  rw [World.cell?_alloc_new]
  simp [hj]

set_option maxHeartbeats 4000000 in
set_option maxRecDepth 20000 in
theorem text_any (v : Value) (l : List Int) (most : Nat) (runes : Bool) (w : World) (hv : Rv w v l.length (l.map (Value.int .i64))) (hx : ∀ x ∈ l, -9223372036854775808 ≤ x ∧ x ≤ 9223372036854775807) (hm : most ≤ 1000) :
    Calls Try.prog 15 #[v, .int .i64 (most : Int), .bool runes] w (RetMade w 3 ((textM l most runes).map (Value.int .i64))) := by
  obtain ⟨ao, cap, rfl, hcap, hrd⟩ := hv.opened
  have HX := Lib.hid hx
  clear hx
  go_enter Try.func15, Try.ntmps15
  go_wp2_with fail
  go_loopw [7, 8] (fun ov iv wr => ∃ (i : Nat) (ys : List Int), iv = .int .i64 (i : Int) ∧ i ≤ l.length ∧ i ≤ most ∧ Hid (ys = (l.take i).map (symOf runes)) ∧ wr.ownsRow w.heap.size 3 1 ov ys.length (ys.map (Value.int .i64)) ∧ Below w.heap.size w wr) (fun _ iv _ => most - (intOf iv).toNat)
  case atStart => exact ⟨0, [], rfl, Nat.zero_le _, Nat.zero_le _, rfl, World.ownsRow_nil _ _ _ _, Below.refl _ w⟩
  case round =>
    obtain ⟨i, ys, rfl, hi, him, HY, hown, hB⟩ := hrel
    have hyl : ys.length ≤ 1000 := by rw [HY.out, List.length_map, List.length_take]; omega
    have hsz := hB.size
    by_cases hlt : i < l.length
    · by_cases hlm : i < most
      · obtain ⟨b2, off2, rfl, hcx⟩ := ((hv.below hB).rd).cell (i := i) (u := .int .i64 l[i]) (by simp [hlt])
        have HX2 := Lib.hid (HX.out l[i] (List.getElem_mem hlt))
        have hsn : (l.take (i + 1)).map (symOf runes) = ys ++ [symOf runes l[i]] := by rw [HY.out, List.take_succ_eq_append_getElem hlt, List.map_append]; rfl
        generalize l[i] = x at *
        go_wp2_with fail
        refine (around_nat x 1048576 (by omega) HX2.out.1 HX2.out.2 (by omega) _).mono ?_
        rintro e w1 ⟨n, hn, HN, rfl, rfl⟩
        have hsy : symOf runes x = if runes && n / 14 % 4 == 0 then tabB.getD (n / 56 % 10) 0 else tabA.getD (n % 14) 0 := by
          have h2 : around x 1048576 = (n : Int) := HN.out.symm
          unfold symOf
          rw [h2]
          rfl
        rw [hsy] at hsn
        clear hsy HN
        have cA := tab_cell wr tabA 3 (n % 14) (Nat.mod_lt _ (by decide))
        generalize hsA : tabA.getD (n % 14) 0 = sA at cA hsn
        have cA' : (wr.alloc (.cells #[.int .i64 97, .int .i64 98, .int .i64 99, .int .i64 97, .int .i64 90, .int .i64 48, .int .i64 95, .int .i64 10, .int .i64 32, .int .i64 98, .int .i64 228, .int .i64 255, .int .i64 0, .int .i64 128] 3)).cell? ⟨wr.heap.size, n % 14, none⟩ = some (.int .i64 sA) := cA
        have BA : Below wr.heap.size wr (wr.alloc (.cells #[.int .i64 97, .int .i64 98, .int .i64 99, .int .i64 97, .int .i64 90, .int .i64 48, .int .i64 95, .int .i64 10, .int .i64 32, .int .i64 98, .int .i64 228, .int .i64 255, .int .i64 0, .int .i64 128] 3)) := (Below.refl _ wr).alloc (Nat.le_refl _) _
        clear cA hsA
        by_cases hr : (runes && n / 14 % 4 == 0) = true
        · rw [if_pos hr] at hsn
          have hr1 : runes = true := by cases runes <;> simp_all
          subst hr1
          have hr2 : n / 14 % 4 = 0 := by simpa using hr
          have cB := tab_cell (wr.alloc (.cells #[.int .i64 97, .int .i64 98, .int .i64 99, .int .i64 97, .int .i64 90, .int .i64 48, .int .i64 95, .int .i64 10, .int .i64 32, .int .i64 98, .int .i64 228, .int .i64 255, .int .i64 0, .int .i64 128] 3)) tabB 3 (n / 56 % 10) (Nat.mod_lt _ (by decide))
          generalize hS1 : tabB.getD (n / 56 % 10) 0 = S1 at cB hsn
          have cB' : ((wr.alloc (.cells #[.int .i64 97, .int .i64 98, .int .i64 99, .int .i64 97, .int .i64 90, .int .i64 48, .int .i64 95, .int .i64 10, .int .i64 32, .int .i64 98, .int .i64 228, .int .i64 255, .int .i64 0, .int .i64 128] 3)).alloc (.cells #[.int .i64 127, .int .i64 128, .int .i64 2047, .int .i64 2048, .int .i64 55295, .int .i64 57344, .int .i64 65535, .int .i64 65536, .int .i64 1114111, .int .i64 8364] 3)).cell? ⟨wr.heap.size + 1, n / 56 % 10, none⟩ = some (.int .i64 S1) := by rw [World.size_alloc] at cB; exact cB
          have HS := Lib.hid hsn
          clear hsn cB hS1 hr
          go_wp2_with (at_builtin; refine wpList_app _ rfl _ _ rfl Try.elI w.heap.size u7 ys.length _ rfl (own_below hown ((BA.alloc BA.size _).alloc (by simp; omega) _)) (.slice (some ⟨wr.heap.size + 2, 0, none⟩) 1 1) 1 [.int .i64 S1] rfl (rv_litH _ [_] _ 1 (by unfold maxLen; omega) _ (by simp)) rfl (ones1 _ rfl) (by omega) (by simp; omega) ?_; intro v5 w5 hown5 hg5 _)
          go_roundw
          case rel => exact ⟨i + 1, ys ++ [S1], by go_num, by omega, by omega, HS.out.symm, by simpa using hown5, ((hB.trans ((((BA.alloc BA.size _).alloc (by simp; omega) _) : Below wr.heap.size wr _).mono hsz)).grown hg5 (by simp; omega) (fun g e => (hown.lt g e).1))⟩
          case measure => simp [intOf]; omega
        · rw [if_neg hr] at hsn
          have HS := Lib.hid hsn
          clear hsn
          cases runes
          · clear hr
            go_wp2_with (at_builtin; refine wpList_app _ rfl _ _ rfl Try.elI w.heap.size u7 ys.length _ rfl (own_below hown (BA.alloc BA.size _)) (.slice (some ⟨wr.heap.size + 1, 0, none⟩) 1 1) 1 [.int .i64 sA] rfl (rv_litH _ [_] _ 1 (by unfold maxLen; omega) _ (by simp)) rfl (ones1 _ rfl) (by omega) (by simp; omega) ?_; intro v5 w5 hown5 hg5 _)
            go_roundw
            case rel => exact ⟨i + 1, ys ++ [sA], by go_num, by omega, by omega, HS.out.symm, by simpa using hown5, ((hB.trans (((BA.alloc BA.size _) : Below wr.heap.size wr _).mono hsz)).grown hg5 (by simp; omega) (fun g e => (hown.lt g e).1))⟩
            case measure => simp [intOf]; omega
          · have hr2 : ((n : Int) / 14 % 4 == 0) = false := by
              simp at hr
              exact beq_eq_false_iff_ne.2 (by omega)
            clear hr
            go_wp2_with (at_builtin; refine wpList_app _ rfl _ _ rfl Try.elI w.heap.size u7 ys.length _ rfl (own_below hown (BA.alloc BA.size _)) (.slice (some ⟨wr.heap.size + 1, 0, none⟩) 1 1) 1 [.int .i64 sA] rfl (rv_litH _ [_] _ 1 (by unfold maxLen; omega) _ (by simp)) rfl (ones1 _ rfl) (by omega) (by simp; omega) ?_; intro v5 w5 hown5 hg5 _)
            go_roundw
            case rel => exact ⟨i + 1, ys ++ [sA], by go_num, by omega, by omega, HS.out.symm, by simpa using hown5, ((hB.trans (((BA.alloc BA.size _) : Below wr.heap.size wr _).mono hsz)).grown hg5 (by simp; omega) (fun g e => (hown.lt g e).1))⟩
            case measure => simp [intOf]; omega
      · go_wp2_with fail
        go_ret
        exact retMade hown (by rw [HY.out, textM, show i = most from by omega]) hB
    · go_wp2_with fail
      go_ret
      exact retMade hown (by rw [HY.out, textM, List.take_of_length_le (by omega), List.take_of_length_le (by omega)]) hB
end Go.Proofs.Ytpehnggglolnoaa
