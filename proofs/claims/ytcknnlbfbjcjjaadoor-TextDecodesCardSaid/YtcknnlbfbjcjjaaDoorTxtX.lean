/- The model of package text: number, begins. -/
import Derived.Test.YtcknnlbfbjcjjaaDoorTxtN
import Derived.Deep.QuietTactic
import Derived.BigQuiet
namespace Go.Proofs.YtcknnlbfbjcjjaaDoor
open Go.RowKit

def numS (n : Int) (c : UInt8) : Int := 64 * n + (c.toNat : Int) - 128
/-- The number of the first i bytes, less what leads. -/
def numL (lead : Int) (i : Nat) (b : List UInt8) : Int := ((b.drop 1).take (i - 1)).foldl numS (((b.headD 0).toNat : Int) - lead)
def leadM (k : Nat) : Int := if k = 2 then 192 else if k = 3 then 224 else if k = 4 then 240 else 0
/-- The number that bytes stand for, if they had the form of k bytes. -/
def numM (k : Nat) (b : List UInt8) : Int := numL (leadM k) k b

theorem numL_le (lead : Int) (h : 0 ≤ lead ∧ lead ≤ 240) (i : Nat) (hi : i ≤ 4) (b : List UInt8) : -343000000 ≤ numL lead i b ∧ numL lead i b ≤ 343000000 := by
  unfold numL
  have h0 := (b.headD 0).toNat_lt
  have hl : ((b.drop 1).take (i - 1)).length ≤ 3 := by rw [List.length_take]; omega
  generalize (b.headD 0) = x at *
  match (b.drop 1).take (i - 1), hl with
  | [], _ => simp only [List.foldl_nil]; omega
  | [c], _ => have := c.toNat_lt; simp only [List.foldl_cons, List.foldl_nil, numS]; omega
  | [c, d], _ => have := c.toNat_lt; have := d.toNat_lt; simp only [List.foldl_cons, List.foldl_nil, numS]; omega
  | [c, d, e], _ => have := c.toNat_lt; have := d.toNat_lt; have := e.toNat_lt; simp only [List.foldl_cons, List.foldl_nil, numS]; omega
theorem numL_one (lead : Int) (b : List UInt8) : numL lead 1 b = ((b.headD 0).toNat : Int) - lead := rfl
theorem numL_snoc (lead : Int) (i : Nat) (hi : 1 ≤ i) (b : List UInt8) (h : i < b.length) : numL lead (i + 1) b = 64 * numL lead i b + (b[i].toNat : Int) - 128 := by
  unfold numL
  rw [show i + 1 - 1 = (i - 1) + 1 from by omega, List.take_succ_eq_append_getElem (by rw [List.length_drop]; omega), List.foldl_append, List.getElem_drop]
  simp only [List.foldl_cons, List.foldl_nil, numS, show 1 + (i - 1) = i from by omega]

set_option maxHeartbeats 4000000 in
theorem number_any (v : Value) (b : List UInt8) (k : Nat) (w : World) (hv : Rv w v b.length (b.map vB)) (hk1 : 1 ≤ k) (hk4 : k ≤ 4) (hkb : k ≤ b.length) :
    Calls Tryd.prog 47 #[v, .int .i64 (k : Int)] w fun e w' => e = .returned (.int .i64 (numM k b)) ∧ w = w' := by
  obtain ⟨ao, cap, rfl, hcap, hrd⟩ := hv.opened
  have hlen := hv.len
  unfold maxLen at hlen
  obtain ⟨g, off, rfl, hc0⟩ := hrd.cell (i := 0) (u := vB b[0]) (by simp [show 0 < b.length by omega])
  rw [Nat.add_zero] at hc0
  unfold vB at hc0
  have hlb : 0 ≤ leadM k ∧ leadM k ≤ 240 := by
    unfold leadM
    repeat' split
    all_goals omega
  have h1 : numL (leadM k) 1 b = (b[0].toNat : Int) - leadM k := by
    rw [numL_one]
    cases b with
    | nil => simp at hkb; omega
    | cons c cs => rfl
  have hle := numL_le (leadM k) hlb
  have hsn := numL_snoc (leadM k)
  have hr : numM k b = numL (leadM k) k b := rfl
  rw [hr]
  clear hr
  have hpos : (0 : Int) < (b.length : Int) := by omega
  have h255 := b[0].toNat_lt
  generalize b[0].toNat = x0 at *
  have hk : (k = 1 ∧ leadM k = 0) ∨ (k = 2 ∧ leadM k = 192) ∨ (k = 3 ∧ leadM k = 224) ∨ (k = 4 ∧ leadM k = 240) := by
    have hk : k = 1 ∨ k = 2 ∨ k = 3 ∨ k = 4 := by omega
    rcases hk with rfl | rfl | rfl | rfl <;> simp [leadM]
  have HLE := Lib.hid hle
  have HSN := Lib.hid hsn
  have H1 := Lib.hid h1
  clear hle hsn h1 hlb
  generalize leadM k = ld at *
  obtain ⟨kk, hkk⟩ : ∃ kk, kk = k := ⟨_, rfl⟩
  have HK : Hid (kk = k) := hkk
  rw [← hkk] at hk1 hk4 hkb
  clear hkk
  rcases hk with ⟨hq, hld⟩ | ⟨hq, hld⟩ | ⟨hq, hld⟩ | ⟨hq, hld⟩
  all_goals
    subst hq
    have HLD := Lib.hid hld
    clear hld
    go_enter Tryd.func47, Tryd.ntmps47
    go_wp2_with fail
    go_loopw [5, 6] (fun nv iv wr => ∃ i : Nat, iv = .int .i64 (i : Int) ∧ 1 ≤ i ∧ i ≤ kk ∧ Hid (nv = .int .i64 (numL ld i b)) ∧ w = wr) (fun _ iv _ => 5 - (intOf iv).toNat)
    case atStart => exact ⟨1, rfl, by omega, by omega, congrArg (Value.int .i64) (by rw [H1.out, HLD.out]; try omega), rfl⟩
    case round =>
      obtain ⟨i, rfl, hi1, hi2, HN, rfl⟩ := hrel
      have hkk := HK.out
      by_cases hlt : i < kk
      · obtain ⟨g2, off2, he, hcx⟩ := hrd.cell (i := i) (u := vB b[i]) (by rw [List.getElem?_map, List.getElem?_eq_getElem (by omega)]; rfl)
        cases he
        unfold vB at hcx
        have hs := HSN.out i hi1 b (by omega)
        have hb1 := HLE.out i (by omega) b
        have h255i := b[i].toNat_lt
        generalize b[i].toNat = c at *
        have hn := HN.out
        subst hn
        clear HN
        generalize numL ld i b = n at *
        have HS := Lib.hid hs
        clear hs
        have hib : (i : Int) < (b.length : Int) := by omega
        first
        | (exfalso; omega)
        | (go_wp2_with fail
           go_roundw
           case rel => exact ⟨i + 1, by go_num, by omega, by omega, (by show _ = _; rw [HS.out]), by trivial⟩
           case measure => simp [intOf]; omega)
      · obtain rfl : i = kk := by omega
        have hn := HN.out
        subst hn
        clear HN
        subst hkk
        go_wp2_with fail
        go_ret
        exact ⟨rfl, rfl⟩

def begM (b p : List UInt8) : Bool := decide (p <+: b)
theorem beg_step {b p : List UInt8} {i : Nat} (h : p.take i = b.take i) {x : UInt8} (hp : p[i]? = some x) (hb : b[i]? = some x) : p.take (i + 1) = b.take (i + 1) := by
  rw [List.take_add_one, List.take_add_one, h, hp, hb]
theorem beg_yes {b p : List UInt8} (h : p.take p.length = b.take p.length) : begM b p = true := by
  rw [List.take_length] at h
  exact decide_eq_true (by rw [List.prefix_iff_eq_take]; exact h)
theorem beg_no {b p : List UInt8} {i : Nat} {x y : UInt8} (hp : p[i]? = some x) (hb : b[i]? = some y) (hne : y ≠ x) : begM b p = false := by
  refine decide_eq_false fun h => hne ?_
  obtain ⟨t, rfl⟩ := h
  have hi : i < p.length := by
    rcases Nat.lt_or_ge i p.length with h | h
    · exact h
    · rw [List.getElem?_eq_none h] at hp; cases hp
  rw [List.getElem?_append_left hi, hp] at hb
  exact (Option.some.inj hb).symm

set_option maxHeartbeats 1000000 in
theorem begins_any (u v : Value) (b p : List UInt8) (w : World) (hu : Rv w u b.length (b.map vB)) (hv : Rv w v p.length (p.map vB)) :
    Calls Tryd.prog 49 #[u, v] w fun e w' => e = .returned (.bool (begM b p)) ∧ ∃ n, w' = w.drewN n := by
  have hm := hu.len
  have hm' := hv.len
  obtain ⟨ao, cap, rfl, hc, _, _, hrd⟩ := hu
  obtain ⟨ao', cap', rfl, hc', _, _, hrd'⟩ := hv
  unfold maxLen at hm hm'
  by_cases hl : p.length ≤ b.length
  · go_enter Tryd.func49, Tryd.ntmps49
    go_wp2_with fail
    go_loopw [5] (fun i wr => ∃ k : Nat, k ≤ p.length ∧ i = .int .i64 k ∧ Hid (p.take k = b.take k) ∧ ∃ n, wr = w.drewN n) (fun i _ => p.length - (intOf i).toNat)
    case atStart => exact ⟨0, Nat.zero_le _, rfl, rfl, 0, rfl⟩
    case round =>
      obtain ⟨k, hk, rfl, HT, n, rfl⟩ := hrel
      by_cases hlt : k < p.length
      · obtain ⟨y, hy⟩ := getE hlt
        obtain ⟨x, hx⟩ := getE (xs := b) (k := k) (by omega)
        obtain ⟨g, off, rfl, hcx⟩ := hrd.cell (i := k) (u := vB x) (by simp [hx])
        obtain ⟨g', off', rfl, hcy⟩ := hrd'.cell (i := k) (u := vB y) (by simp [hy])
        simp only [vB] at hcx hcy
        have HX := Lib.hid hx
        have HY := Lib.hid hy
        clear hx hy hrd hrd'
        have hkb : k < b.length := by omega
        by_cases hxy : x = y
        · subst hxy
          go_wp2
          go_quiet (fail)
          go_wp2
          go_roundw
          case rel => exact ⟨k + 1, by omega, by go_num, beg_step HT.out HY.out HX.out, n + nq, by simp⟩
          case measure => simp [intOf]; omega
        · have hne : ((x.toNat : Int) == y.toNat) = false := by
            simp only [beq_eq_false_iff_ne, ne_eq]
            intro h; exact hxy (UInt8.toNat_inj.1 (by omega))
          have hne' : ¬ (x.toNat : Int) = y.toNat := by simpa using hne
          go_wp2
          go_quiet (fail)
          go_wp2
          go_ret
          exact ⟨ret_bool (beg_no HY.out HX.out hxy).symm, n + nq, by simp⟩
      · obtain rfl : k = p.length := by omega
        go_wp2
        go_ret
        exact ⟨ret_bool (beg_yes HT.out).symm, n, rfl⟩
  · go_enter Tryd.func49, Tryd.ntmps49
    go_wp2
    go_ret
    refine ⟨ret_bool ?_, 0, rfl⟩
    exact (decide_eq_false (fun h => hl h.length_le)).symm
end Go.Proofs.YtcknnlbfbjcjjaaDoor
