/- Several texts in one: JrnD JrnE. -/
import Derived.Test.YtpehnggglolnoaaJrnC
import Derived.Test.YtpehnggglolnoaaRdI
/- Package journal, plain: which record a frame at the beginning holds; the records of bytes. -/
namespace Go.Proofs.Ytpehnggglolnoaa
open Go.RowKit

/-- The record with number n whose frame is at the beginning, as the reference model finds it. -/
def firstJ (n : Int) (b : List UInt8) : Option (List UInt8) :=
  match rdRaw (.ok b) with
  | (_, .error _) => none
  | (core, .ok _) =>
    match rdRaw (rdI (.ok core)).2 with
    | (_, .error _) => none
    | (raw, .ok _) => if (frameM n raw).isPrefixOf b then some raw else none
theorem frameM_pos (n : Int) (raw : List UInt8) : 1 ≤ (frameM n raw).length := by
  have := uvar_pos (bytesB frameL (coreM n raw)).toNat
  rw [frameM, List.length_append]; omega
theorem frameM_core (n : Int) (raw : List UInt8) : raw.length ≤ (coreM n raw).length ∧ (coreM n raw).length ≤ (frameM n raw).length := by
  rw [frameM, rawW, coreM, rawW]
  simp only [List.length_append]
  omega
theorem firstJ_pre {n : Int} {b raw : List UInt8} (h : firstJ n b = some raw) : frameM n raw <+: b := by
  unfold firstJ at h
  split at h
  · cases h
  · split at h
    · cases h
    · split at h
      · rename_i hp
        cases h
        exact List.isPrefixOf_iff_prefix.1 hp
      · cases h
theorem firstJ_of {n : Int} (hn : -9223372036854775808 ≤ n ∧ n ≤ 9223372036854775807) {b raw : List UInt8} (hb : b.length < 18446744073709551616) (h : frameM n raw <+: b) : firstJ n b = some raw := by
  obtain ⟨t, ht⟩ := h
  have hl : (frameM n raw).length ≤ b.length := by rw [← ht]; simp
  have hc := frameM_core n raw
  have h1 : rdRaw (.ok b) = (coreM n raw, .ok (uvar (bytesB frameL (coreM n raw)).toNat ++ t)) := by
    rw [← ht, frameM, List.append_assoc]
    exact rdRaw_rawW _ _ (by omega)
  have h2 : rdI (.ok (coreM n raw)) = (n, .ok (rawW raw)) := by rw [coreM]; exact rdI_zvar n _ hn
  have h3 : rdRaw (.ok (rawW raw)) = (raw, .ok []) := by
    have := rdRaw_rawW raw [] (by omega)
    rwa [List.append_nil] at this
  unfold firstJ
  rw [h1]
  simp only [h2, h3]
  rw [if_pos (List.isPrefixOf_iff_prefix.2 ⟨t, ht⟩)]
theorem firstJ_none {n : Int} (hn : -9223372036854775808 ≤ n ∧ n ≤ 9223372036854775807) {b : List UInt8} (hb : b.length < 18446744073709551616) (h : firstJ n b = none) (raw : List UInt8) : ¬ frameM n raw <+: b := fun hp => by
  rw [firstJ_of hn hb hp] at h; cases h
theorem firstJ_eq {n : Int} (hn : -9223372036854775808 ≤ n ∧ n ≤ 9223372036854775807) {b : List UInt8} (hb : b.length < 18446744073709551616) {o : Option (List UInt8)} (h1 : ∀ raw, o = some raw → frameM n raw <+: b) (h2 : o = none → ∀ raw, ¬ frameM n raw <+: b) : o = firstJ n b := by
  cases o with
  | some raw => exact (firstJ_of hn hb (h1 raw rfl)).symm
  | none =>
    cases hf : firstJ n b with
    | none => rfl
    | some raw => exact absurd (firstJ_pre hf) (h2 rfl raw)

/-- The records of bytes from number k on, and how many bytes their frames take. -/
def scanJ : Nat → Nat → List UInt8 → List (List UInt8) × Nat
  | 0, _, _ => ([], 0)
  | f + 1, k, b =>
    match firstJ (k : Int) b with
    | none => ([], 0)
    | some raw => (raw :: (scanJ f (k + 1) (b.drop (frameM (k : Int) raw).length)).1, (frameM (k : Int) raw).length + (scanJ f (k + 1) (b.drop (frameM (k : Int) raw).length)).2)
def scanL (b : List UInt8) : List (List UInt8) × Nat := scanJ b.length 0 b
theorem scanJ_len (f k : Nat) (b : List UInt8) : (scanJ f k b).2 ≤ b.length ∧ (scanJ f k b).1.length ≤ (scanJ f k b).2 := by
  induction f generalizing k b with
  | zero => simp [scanJ]
  | succ f ih =>
    rw [scanJ]
    cases hf : firstJ (k : Int) b with
    | none => simp
    | some raw =>
      have hp := (firstJ_pre hf).length_le
      have h1 := frameM_pos (k : Int) raw
      have h2 := ih (k + 1) (b.drop (frameM (k : Int) raw).length)
      rw [List.length_drop] at h2
      simp only [List.length_cons]
      omega
theorem scanJ_fuel (f g k : Nat) (b : List UInt8) (hf : b.length ≤ f) (hg : b.length ≤ g) : scanJ f k b = scanJ g k b := by
  induction f generalizing g k b with
  | zero =>
    have : b = [] := List.eq_nil_of_length_eq_zero (by omega)
    subst this
    cases g with
    | zero => rfl
    | succ g =>
      rw [scanJ, scanJ]
      have : firstJ (k : Int) [] = none := by unfold firstJ; rfl
      rw [this]
  | succ f ih =>
    cases g with
    | zero =>
      have : b = [] := List.eq_nil_of_length_eq_zero (by omega)
      subst this
      rw [scanJ, scanJ]
      have : firstJ (k : Int) [] = none := by unfold firstJ; rfl
      rw [this]
    | succ g =>
      rw [scanJ, scanJ]
      cases hf : firstJ (k : Int) b with
      | none => rfl
      | some raw =>
        have h1 := frameM_pos (k : Int) raw
        have hp := (firstJ_pre hf).length_le
        simp only
        rw [ih g (k + 1) (b.drop (frameM (k : Int) raw).length) (by rw [List.length_drop]; omega) (by rw [List.length_drop]; omega)]
/-- The frames of records, from number k on. -/
def framesM : Nat → List (List UInt8) → List UInt8
  | _, [] => []
  | k, x :: xs => frameM (k : Int) x ++ framesM (k + 1) xs
theorem framesM_snoc (k : Nat) (xs : List (List UInt8)) (x : List UInt8) : framesM k (xs ++ [x]) = framesM k xs ++ frameM ((k + xs.length : Nat) : Int) x := by
  induction xs generalizing k with
  | nil => rw [List.nil_append, List.length_nil, Nat.add_zero, framesM, framesM, framesM, List.append_nil, List.nil_append]
  | cons y ys ih =>
    have e : k + 1 + ys.length = k + (ys.length + 1) := by omega
    rw [List.cons_append, framesM, framesM, ih, List.append_assoc, List.length_cons, e]
theorem scanJ_pre (f k : Nat) (b : List UInt8) : framesM k (scanJ f k b).1 = b.take (scanJ f k b).2 := by
  induction f generalizing k b with
  | zero => simp [scanJ, framesM]
  | succ f ih =>
    rw [scanJ]
    cases hf : firstJ (k : Int) b with
    | none => simp [framesM]
    | some raw =>
      obtain ⟨t, rfl⟩ := firstJ_pre hf
      simp only [framesM]
      rw [ih, List.drop_left, List.take_length_add_append]
/-- Frames, and what follows them, are read back. -/
theorem scanJ_frames (xs : List (List UInt8)) (k : Nat) (t : List UInt8) (f : Nat) (hf : (framesM k xs ++ t).length ≤ f) (hk : k + xs.length ≤ 9223372036854775807) (hl : f < 18446744073709551616) :
    scanJ f k (framesM k xs ++ t) = (xs ++ (scanJ t.length (k + xs.length) t).1, (framesM k xs).length + (scanJ t.length (k + xs.length) t).2) := by
  induction xs generalizing k f with
  | nil =>
    simp only [framesM, List.nil_append, List.length_nil, Nat.add_zero, Nat.zero_add] at hf ⊢
    exact scanJ_fuel f t.length k t hf (Nat.le_refl _)
  | cons x xs ih =>
    have h1 := frameM_pos (k : Int) x
    simp only [framesM, List.append_assoc, List.length_append, List.length_cons] at hf hk ⊢
    cases f with
    | zero => omega
    | succ f =>
      rw [scanJ, firstJ_of (n := (k : Int)) (raw := x) (by omega) (by simp only [List.length_append]; omega) ⟨_, rfl⟩]
      simp only
      rw [List.drop_left, ih (k + 1) f (by simp only [List.length_append]; omega) (by omega) (by omega), show k + 1 + xs.length = k + (xs.length + 1) from by omega]
      simp only [List.cons_append, Nat.add_assoc]
end Go.Proofs.Ytpehnggglolnoaa

/- Lists of byte slices that the call makes: Records. -/
namespace Go.Proofs.Ytpehnggglolnoaa
open Go.RowKit

theorem Try.infoS : (Try.prog.info? 49).map (fun i => (i.zero, i.size, i.bytes)) = some (some (.slice none 0 0), 1, 24) := by kernel_rfl
theorem Try.elS : Elem Try.prog 26 49 (.slice none 0 0) 1 24 := ⟨Try.underlying26, Try.infoS, rfl, by decide, by decide⟩

/-- What stays readable beside a block that grows. -/
theorem rv_grown {w w' : World} {v : Value} {n : Nat} {us : List Value} {row : Option Nat} (h : Rv w v n us) (hg : w.grownBy w' row) (h2 : row = none ∨ row ≠ v.ownBlock) : Rv w' v n us := by
  obtain ⟨ao, cap, rfl, h1, h3, h4, h5⟩ := h
  refine ⟨ao, cap, rfl, h1, h3, h4, ?_⟩
  rcases h5 with h5 | ⟨g, off, rfl, h5⟩
  · exact .inl h5
  · refine .inr ⟨g, off, rfl, fun i u hi => ?_⟩
    have hc := h5 i u hi
    have hlt := World.block_lt_of_cell? w _ hc
    unfold World.cell? at hc ⊢
    rw [hg.block g hlt (by rcases h2 with h2 | h2; · rw [h2]; simp
                           · exact fun e => h2 e.symm)]
    exact hc
/-- A list of byte slices that is the call's own. -/
structure LsO (w : World) (base : Nat) (v : Value) (us : List Value) (L : List (List UInt8)) : Prop where
  own : w.ownsRow base 49 1 v L.length us
  one : ∀ u ∈ us, u.oneCell' = true
  rd : ∀ i (h : i < L.length) u, us[i]? = some u → Rv w u L[i].length (L[i].map vB)
  low : ∀ u ∈ us, Low w.heap.size u
  far : ∀ u ∈ us, ∀ g, u.ownBlock = some g → v.ownBlock ≠ some g
section
variable {w w' : World} {bs : Nat} {v : Value} {us : List Value} {L : List (List UInt8)}
theorem LsO.len (h : LsO w bs v us L) : us.length = L.length := by have := h.own.1; omega
theorem LsO.nil (w : World) (bs : Nat) : LsO w bs (.slice none 0 0) [] [] :=
  ⟨World.ownsRow_nil _ _ _ _, by simp, fun i h => by simp at h, by simp, by simp⟩
theorem LsO.ls (h : LsO w bs v us L) : LsB w v L := ⟨us, Rv.of_own h.own, h.len, h.rd⟩
theorem LsO.based (h : LsO w bs v us L) {b : Nat} (hb : b ≤ bs) : LsO w b v us L := ⟨own_base h.own hb, h.one, h.rd, h.low, h.far⟩
theorem LsO.below (h : LsO w bs v us L) (hb : Below w.heap.size w w') : LsO w' bs v us L :=
  ⟨own_below h.own hb, h.one, fun i hi u hu => (h.rd i hi u hu).below hb, fun u hu => (h.low u hu).mono hb.size, h.far⟩
/-- What an append of one slice leaves. -/
theorem LsO.app (h : LsO w bs v us L) {y v' : Value} {x : List UInt8} (hy : Rv w y x.length (x.map vB)) (h1 : y.oneCell' = true) (hl : Low w.heap.size y) (hf : ∀ g, y.ownBlock = some g → v.ownBlock ≠ some g)
    {n : Nat} {xs : List Value} (hn : n = L.length + 1) (hxs : xs = us ++ [y]) (hown : w'.ownsRow bs 49 1 v' n xs) (hg : w.grownBy w' v.ownBlock) (hs : SameOrNew w v v') : LsO w' bs v' (us ++ [y]) (L ++ [x]) := by
  subst hn hxs
  have hfar : ∀ u ∈ us ++ [y], ∀ g, u.ownBlock = some g → v.ownBlock ≠ some g := by
    intro u hu
    rcases List.mem_append.1 hu with hu | hu
    · exact h.far u hu
    · rw [List.mem_singleton.1 hu]; exact hf
  have hlow : ∀ u ∈ us ++ [y], Low w.heap.size u := by
    intro u hu
    rcases List.mem_append.1 hu with hu | hu
    · exact h.low u hu
    · rw [List.mem_singleton.1 hu]; exact hl
  have hrd : ∀ i (hi : i < (L ++ [x]).length) u, (us ++ [y])[i]? = some u → Rv w u (L ++ [x])[i].length ((L ++ [x])[i].map vB) := by
    intro i hi u hu
    rw [List.length_append, List.length_singleton] at hi
    have he := h.len
    by_cases hlt : i < L.length
    · rw [List.getElem?_append_left (by omega)] at hu
      rw [List.getElem_append_left hlt]
      exact h.rd i hlt u hu
    · have : i = L.length := by omega
      subst this
      rw [List.getElem?_append_right (by omega), he, Nat.sub_self] at hu
      simp only [List.getElem?_cons_zero, Option.some.injEq] at hu
      subst hu
      rw [List.getElem_append_right (Nat.le_refl _)]
      simpa using hy
  refine ⟨by rw [List.length_append]; exact hown, ?_, ?_, ?_, ?_⟩
  · intro u hu
    rcases List.mem_append.1 hu with hu | hu
    · exact h.one u hu
    · rw [List.mem_singleton.1 hu]; exact h1
  · intro i hi u hu
    refine rv_grown (hrd i hi u hu) hg ?_
    rcases hq : v.ownBlock with _ | g
    · exact .inl rfl
    · refine .inr fun e => ?_
      exact hfar u (List.mem_of_getElem? hu) g e.symm hq
  · exact fun u hu => (hlow u hu).mono hg.size
  · intro u hu g hg1 hg2
    rcases hs with hs | hs
    · exact hfar u hu g hg1 (hs ▸ hg2)
    · have h1 := hlow u hu g hg1
      have h2 := hs g hg2
      omega
end
theorem rv_litJ (w : World) (us : List Value) (e : TypeId) (n : Nat) (hm : n ≤ maxLen) (H : Nat) (hH : w.heap.size = H) : Rv (w.alloc (.cells us.toArray e)) (.slice (some ⟨H, 0, none⟩) n n) n us := by
  subst hH
  exact Rv.lit w us e n hm
/-- The record of a number, the records of numbers. -/
def recB (n : Nat) : List UInt8 := (List.range (n % 11)).map fun k => UInt8.ofNat (n / 11 + k * n)
def recM (l : List Int) : List (List UInt8) := (l.take 6).map fun x => recB (around x 1000).toNat
theorem recB_len (n : Nat) : (recB n).length ≤ 10 := by rw [recB, List.length_map, List.length_range]; omega
theorem recM_len (l : List Int) : (recM l).length ≤ 6 := by rw [recM, List.length_map, List.length_take]; omega
theorem recM_mem (l : List Int) : ∀ x ∈ recM l, x.length ≤ 10 := by
  intro x hx
  obtain ⟨y, _, rfl⟩ := List.mem_map.1 hx
  exact recB_len _
theorem byte_wrap (k : Nat) : IntKind.u8.wrap (k : Int) = ((UInt8.ofNat k).toNat : Int) := by
  rw [IntKind.wrap_u8, UInt8.toNat_ofNat']; omega

/-- The call returns such a list. -/
def RetLsG (w : World) (L : List (List UInt8)) (en : Ending) (w' : World) : Prop := ∃ v us, en = .returned v ∧ LsO w' w.heap.size v us L ∧ (∀ u ∈ us, ∀ g, u.ownBlock = some g → w.heap.size ≤ g) ∧ Below w.heap.size w w'
def RetLs (w : World) (L : List (List UInt8)) (en : Ending) (w' : World) : Prop := ∃ v us, en = .returned v ∧ LsO w' w.heap.size v us L ∧ Below w.heap.size w w'

set_option maxHeartbeats 4000000 in
set_option maxRecDepth 20000 in
theorem records_anyG (v : Value) (l : List Int) (w : World) (hv : Rv w v l.length (l.map (Value.int .i64))) (hx : ∀ x ∈ l, -9223372036854775808 ≤ x ∧ x ≤ 9223372036854775807) :
    Calls Try.prog 28 #[v] w (RetLsG w (recM l)) := by
  obtain ⟨ao, cap, rfl, hcap, hrd⟩ := hv.opened
  have HX := Lib.hid hx
  clear hx
  go_enter Try.func28, Try.ntmps28
  go_wp2_with fail
  go_loopw [3, 4] (fun ov iv wr => ∃ (i : Nat) (us : List Value) (L : List (List UInt8)), iv = .int .i64 (i : Int) ∧ i ≤ l.length ∧ i ≤ 6 ∧ Hid (L = (l.take i).map fun x => recB (around x 1000).toNat) ∧ L.length = i ∧ LsO wr w.heap.size ov us L ∧ (∀ u ∈ us, ∀ g, u.ownBlock = some g → w.heap.size ≤ g) ∧ Below w.heap.size w wr) (fun _ iv _ => 6 - (intOf iv).toNat)
  case atStart => exact ⟨0, [], [], rfl, Nat.zero_le _, Nat.zero_le _, rfl, rfl, LsO.nil _ _, (fun _ h => by cases h), Below.refl _ w⟩
  case round =>
    obtain ⟨i, us, L, rfl, hi, hi6, HL, hLl, hO, hU, hB⟩ := hrel
    have hsz := hB.size
    by_cases hlt : i < l.length
    · by_cases hl6 : i < 6
      · obtain ⟨b2, off2, rfl, hcx⟩ := ((hv.below hB).rd).cell (i := i) (u := .int .i64 l[i]) (by simp [hlt])
        have HX2 := Lib.hid (HX.out l[i] (List.getElem_mem hlt))
        have hsn : (l.take (i + 1)).map (fun x => recB (around x 1000).toNat) = L ++ [recB (around l[i] 1000).toNat] := by rw [HL.out, List.take_succ_eq_append_getElem hlt, List.map_append]; rfl
        generalize l[i] = x at *
        go_wp2_with fail
        refine (around_nat x 1000 (by omega) HX2.out.1 HX2.out.2 (by omega) _).mono ?_
        rintro e w1 ⟨n, hn, HN, rfl, rfl⟩
        have ha : (around x 1000).toNat = n := by
          have h2 : around x 1000 = (n : Int) := HN.out.symm
          rw [h2]; rfl
        rw [ha] at hsn
        clear ha HN
        have HS := Lib.hid hsn
        clear hsn
        go_wp2_with fail
        rename World => W1
        go_loopw [6, 7] (fun bv kv w' => ∃ (k : Nat) (bs : List UInt8), kv = .int .i64 (k : Int) ∧ k ≤ n % 11 ∧ Hid (bs = (List.range k).map fun k => UInt8.ofNat (n / 11 + k * n)) ∧ bs.length = k ∧ w'.ownsRow W1.heap.size 5 1 bv k (bs.map vB) ∧ Below W1.heap.size W1 w') (fun _ kv _ => n % 11 - (intOf kv).toNat)
        case atStart => exact ⟨0, [], rfl, Nat.zero_le _, rfl, rfl, World.ownsRow_nil _ _ _ _, Below.refl _ _⟩
        case round =>
          obtain ⟨k, bs, rfl, hk, HBS, hbl, hown, hBi⟩ := hrel
          have hszi := hBi.size
          by_cases hkl : k < n % 11
          · have hkd : decide ((k : Int) < (n : Int) % 11) = true := decide_eq_true (by omega)
            have hkn : k * n ≤ 10 * n := Nat.mul_le_mul_right _ (by omega)
            have hw1 : IntKind.i64.wrap ((k : Int) * (n : Int)) = ((k * n : Nat) : Int) := by rw [IntKind.wrap_i64, Int.natCast_mul]; omega
            have hbw : ((n : Int) / 11 + (k : Int) * (n : Int)) % 256 = ((UInt8.ofNat (n / 11 + k * n)).toNat : Int) := by
              rw [UInt8.toNat_ofNat', Int.natCast_emod, Int.natCast_add, Int.natCast_mul, Int.natCast_ediv]; rfl
            have hsb : (List.range (k + 1)).map (fun k => UInt8.ofNat (n / 11 + k * n)) = bs ++ [UInt8.ofNat (n / 11 + k * n)] := by rw [HBS.out, List.range_succ, List.map_append]; rfl
            have HSB := Lib.hid hsb
            clear hsb
            generalize UInt8.ofNat (n / 11 + k * n) = c at *
            have hA := (Below.refl _ wr).alloc (Nat.le_refl _) (.cells #[.int .u8 (c.toNat : Int)] 5)
            go_wp2_with (at_builtin; go_loud (refine wpList_app _ rfl _ _ rfl Try.elB W1.heap.size u6 k _ rfl (own_below hown hA) (.slice (some ⟨wr.heap.size, 0, none⟩) 1 1) 1 [.int .u8 (c.toNat : Int)] rfl (rv_litJ _ [_] _ 1 (by unfold maxLen; omega) _ (by simp)) rfl (ones1 _ rfl) (by omega) (by simp; omega) ?_; intro v5 w5 hown5 hg5 _))
            go_roundw
            case rel => exact ⟨k + 1, bs ++ [c], by go_num, by omega, HSB.out.symm, by simp; omega, by rw [List.map_append]; exact hown5, (hBi.alloc hszi _).grown hg5 (by simp; omega) (fun g e => (hown.lt g e).1)⟩
            case measure => simp [intOf]; omega
          · obtain rfl : k = n % 11 := by omega
            have hkd : decide (((n % 11 : Nat) : Int) < (n : Int) % 11) = false := decide_eq_false (by omega)
            have hbr : bs = recB n := HBS.out
            subst hbr
            obtain ⟨k6, a6, c6, rfl⟩ := own_shape hown
            have HRV := Rv.of_own hown
            rw [show n % 11 = (recB n).length from hbl.symm] at HRV
            have hlow : Low wr.heap.size (.slice a6 k6 c6) := fun g hg => (hown.lt g hg).2
            have hge : ∀ g, (Value.slice a6 k6 c6).ownBlock = some g → u3.ownBlock ≠ some g := fun g hg hg2 => by
              have h1 := (hown.lt g hg).1
              have h2 := (hO.own.lt g hg2).2
              omega
            have hU2 : ∀ u ∈ us ++ [(.slice a6 k6 c6)], ∀ g, u.ownBlock = some g → w.heap.size ≤ g := fun u hu g hg => (List.mem_append.1 hu).elim (fun h => hU u h g hg) (fun h => by rw [List.mem_singleton.1 h] at hg; have := (hown.lt g hg).1; omega)
            have hO2 := hO.below hBi
            have hone : (Value.slice a6 k6 c6).oneCell' = true := rfl
            have hA := (Below.refl _ wr).alloc (Nat.le_refl _) (.cells #[(.slice a6 k6 c6)] 49)
            have hOA := hO2.below hA
            have hB2 := bel hB hBi
            clear HBS hbl hown HL
            go_wp2_with (at_builtin; go_loud (refine wpList_app2 _ rfl _ _ rfl Try.elS w.heap.size u3 i us rfl (hLl ▸ hOA.own) (.slice (some ⟨wr.heap.size, 0, none⟩) 1 1) 1 [(.slice a6 k6 c6)] rfl (rv_litJ _ [_] _ 1 (by unfold maxLen; omega) _ (by simp)) rfl (ones1 _ hone) (by omega) (by simp; omega) ?_; intro v5 w5 hown5 hg5 hs5))
            go_roundw
            case rel => exact ⟨i + 1, us ++ [(.slice a6 k6 c6)], L ++ [recB n], by go_num, by omega, by omega, HS.out.symm, by simp; omega, hOA.app (HRV.below hA) hone (hlow.mono hA.size) hge (by omega) rfl hown5 hg5 hs5, hU2, (hB2.alloc hB2.size _).grown hg5 (by simp; omega) (fun g e => (hO.own.lt g e).1)⟩
            case measure => simp [intOf]; omega
      · go_wp2_with fail
        go_ret
        exact ⟨_, us, rfl, by rw [recM, show (6 : Nat) = i from by omega, ← HL.out]; exact hO, hU, hB⟩
    · go_wp2_with fail
      go_ret
      exact ⟨_, us, rfl, by rw [recM, List.take_of_length_le (by omega), ← List.take_of_length_le (l := l) (i := i) (by omega), ← HL.out]; exact hO, hU, hB⟩
theorem records_any (v : Value) (l : List Int) (w : World) (hv : Rv w v l.length (l.map (Value.int .i64))) (hx : ∀ x ∈ l, -9223372036854775808 ≤ x ∧ x ≤ 9223372036854775807) :
    Calls Try.prog 28 #[v] w (RetLs w (recM l)) :=
  (records_anyG v l w hv hx).mono fun _ _ ⟨v, us, h1, h2, _, h4⟩ => ⟨v, us, h1, h2, h4⟩
end Go.Proofs.Ytpehnggglolnoaa
