/- The model's Valid. -/
import Derived.Test.YtadhghikanjkeaaPrtR
namespace Go.Proofs.Ytadhghikanjkeaa
open Go.RowKit

theorem within_eq {n lo hi : Int} {b : Bool} (h : inR n lo hi = b) (w : World) :
    Calls Try.prog 37 #[.int .i64 n, .int .i64 lo, .int .i64 hi] w fun e w' => e = .returned (.bool b) ∧ w = w' := by
  subst h
  exact within_any n lo hi w
theorem list3 {W : World} {b : Nat} {x0 x1 x2 : Int} {T : TypeId} (h : W.heap[b]? = some (.cells #[.int .i64 x0, .int .i64 x1, .int .i64 x2] T (0, 0))) (i : Nat) (x : Int) (hx : [x0, x1, x2][i]? = some x) : W.cell? ⟨b, i, none⟩ = some (.int .i64 x) := by
  match i, hx with
  | 0, hx => cases hx; simp [World.cell?, h]
  | 1, hx => cases hx; simp [World.cell?, h]
  | 2, hx => cases hx; simp [World.cell?, h]
def okN (x : Int) : Bool := inR x (-1099511627776) 1099511627776
theorem ok_of3 (f : F3) (h : ∀ (i : Nat) (x : Int), [f.r, f.s, f.e][i]? = some x → okN x = true) : f.ok = true := by
  have a := h 0 f.r rfl
  have b := h 1 f.s rfl
  have c := h 2 f.e rfl
  unfold okN at a b c
  simp only [F3.ok, a, b, c, Bool.and_self]
theorem not_ok3 (f : F3) (i : Nat) (x : Int) (hx : [f.r, f.s, f.e][i]? = some x) (h : okN x = false) : f.ok = false := by
  unfold okN at h
  match i, hx with
  | 0, hx => cases hx; simp [F3.ok, h]
  | 1, hx => cases hx; simp [F3.ok, h]
  | 2, hx => cases hx; simp [F3.ok, h]

set_option maxRecDepth 20000 in
set_option maxHeartbeats 2000000 in
theorem validR_any (m : Msg) (ab af : Option Addr) (cb cf : Nat) (w : World) (hm : Cells6 w m ab af cb cf) :
    Calls Try.prog 12 #[msgV m ab af cb cf] w fun e w' => e = .returned (.bool (validM m)) ∧ Below w.heap.size w w' := by
  have hlb := hm.body.len
  have hlf := hm.fnd.len
  unfold maxLen at hlb hlf
  have hf := hm.fnd
  obtain ⟨b1, h1⟩ : ∃ b, inR m.k 0 6 = b := ⟨_, rfl⟩
  obtain ⟨b2, h2⟩ : ∃ b, inR m.c 0 1099511627776 = b := ⟨_, rfl⟩
  obtain ⟨b3, h3⟩ : ∃ b, inR m.v (-1) 1024 = b := ⟨_, rfl⟩
  obtain ⟨b4, h4⟩ : ∃ b, inR m.o 0 1000 = b := ⟨_, rfl⟩
  have hv : validM m = (b1 && b2 && b3 && b4 && decide (m.body.length ≤ 65536) && decide (m.fnd.length ≤ 1024) && m.fnd.all F3.ok) := by
    unfold validM headM
    rw [h1, h2, h3, h4]
  have H1 := Lib.hid h1
  have H2 := Lib.hid h2
  have H3 := Lib.hid h3
  have H4 := Lib.hid h4
  have HV := Lib.hid hv
  clear h1 h2 h3 h4 hv hm
  unfold msgV
  go_enter Try.func12, Try.ntmps12
  have B1 : Below w.heap.size w (w.alloc (.cells #[.int .i64 m.k, .int .i64 m.c, .int .i64 m.v, .int .i64 m.o, .slice ab m.body.length cb, .slice af m.fnd.length cf] 27)) := (Below.refl _ w).alloc (Nat.le_refl _) _
  have kA : (w.alloc (.cells #[.int .i64 m.k, .int .i64 m.c, .int .i64 m.v, .int .i64 m.o, .slice ab m.body.length cb, .slice af m.fnd.length cf] 27)).heap[w.heap.size]? = some (msgR m.k m.c m.v m.o (.slice ab m.body.length cb) (.slice af m.fnd.length cf)) := World.alloc_heap_new w _
  have KA := Lib.hid kA
  clear kA
  by_cases hall : (b1 && b2 && b3 && b4) = true ∧ m.body.length ≤ 65536 ∧ m.fnd.length ≤ 1024
  · obtain ⟨hb, hbl, hfl⟩ := hall
    simp only [Bool.and_eq_true] at hb
    obtain ⟨⟨⟨rfl, rfl⟩, rfl⟩, rfl⟩ := hb
    have hbl1 : ¬ (65536 : Int) < (m.body.length : Int) := by omega
    have hfl1 : ¬ (1024 : Int) < (m.fnd.length : Int) := by omega
    have hv : validM m = m.fnd.all F3.ok := by rw [HV.out]; simp [hbl, hfl]
    have HV := Lib.hid hv
    clear hv
    go_wp2_with fail
    refine (within_eq H1.out _).mono ?_
    rintro e w' ⟨rfl, rfl⟩
    go_wp2_with fail
    refine (within_eq H2.out _).mono ?_
    rintro e w' ⟨rfl, rfl⟩
    go_wp2_with fail
    refine (within_eq H3.out _).mono ?_
    rintro e w' ⟨rfl, rfl⟩
    go_wp2_with fail
    refine (within_eq H4.out _).mono ?_
    rintro e w' ⟨rfl, rfl⟩
    go_wp2_with fail
    obtain ⟨w0, hw0⟩ : ∃ w0, w.alloc (.cells #[.int .i64 m.k, .int .i64 m.c, .int .i64 m.v, .int .i64 m.o, .slice ab m.body.length cb, .slice af m.fnd.length cf] 27) = w0 := ⟨_, rfl⟩
    have kA := KA.out
    rw [hw0] at B1 kA ⊢
    clear hw0 KA
    have hsA := (Array.getElem?_eq_some_iff.1 kA).1
    go_loopw [4] (fun iv wr => ∃ i : Nat, iv = .int .i64 (i : Int) ∧ i ≤ m.fnd.length ∧ Hid ((m.fnd.take i).all F3.ok = true) ∧ Below w0.heap.size w0 wr) (fun iv _ => m.fnd.length - (intOf iv).toNat)
    case atStart => exact ⟨0, by first | rfl | trivial, by omega, Lib.hid (by simp), Below.refl _ _⟩
    case round =>
      obtain ⟨i, rfl, hi, HA, B⟩ := hrel
      have k5 := msgR_c5 ((B.block _ hsA).trans kA)
      by_cases hlt : i < m.fnd.length
      · obtain ⟨g, o, haf⟩ := fsome hf hlt
        subst haf
        have hlti : (i : Int) < (m.fnd.length : Int) := by omega
        obtain ⟨c1, c2, c3⟩ := fcell3 ((hf.below B1).below B) hlt
        have htk : m.fnd.take (i + 1) = m.fnd.take i ++ [m.fnd[i]] := List.take_succ_eq_append_getElem hlt
        have hmem := List.getElem_mem hlt
        obtain ⟨f, hfe⟩ : ∃ f, m.fnd[i] = f := ⟨_, rfl⟩
        rw [hfe] at htk hmem c1 c2 c3
        have HTK := Lib.hid htk
        have HMEM := Lib.hid hmem
        clear htk hmem hfe
        go_wp2_with fail
        go_region_held3 (fun W' => W'.cell? ⟨w.heap.size, 5, none⟩ = some (.slice (some ⟨g, o, none⟩) m.fnd.length cf) ∧ W'.cell? ⟨g, o + i * 3, none⟩ = some (.int .i64 f.r) ∧ W'.cell? ⟨g, o + i * 3 + 1, none⟩ = some (.int .i64 f.s) ∧ W'.cell? ⟨g, o + i * 3 + 2, none⟩ = some (.int .i64 f.e)) (first | exact ⟨k5, c1, c2, c3⟩ | go_keep) (fail)
        have B3 : Below w0.heap.size w0 (wr.alloc (.cells #[.int .i64 f.r, .int .i64 f.s, .int .i64 f.e] 3)) := B.alloc B.size _
        have hL : (wr.alloc (.cells #[.int .i64 f.r, .int .i64 f.s, .int .i64 f.e] 3)).heap[wr.heap.size]? = some (.cells #[.int .i64 f.r, .int .i64 f.s, .int .i64 f.e] 3) := World.alloc_heap_new wr _
        have hls : wr.heap.size < (wr.alloc (.cells #[.int .i64 f.r, .int .i64 f.s, .int .i64 f.e] 3)).heap.size := by rw [World.size_alloc]; omega
        clear k5 c1 c2 c3
        go_wp2_with fail
        go_loopw [6] (fun kv w4 => ∃ k : Nat, kv = .int .i64 (k : Int) ∧ k ≤ 3 ∧ Hid (∀ (j : Nat) (x : Int), j < k → [f.r, f.s, f.e][j]? = some x → okN x = true) ∧ Below (wr.alloc (.cells #[.int .i64 f.r, .int .i64 f.s, .int .i64 f.e] 3)).heap.size (wr.alloc (.cells #[.int .i64 f.r, .int .i64 f.s, .int .i64 f.e] 3)) w4) (fun kv _ => 3 - (intOf kv).toNat)
        case atStart => exact ⟨0, by first | rfl | trivial, by omega, Lib.hid (fun j x hj _ => absurd hj (Nat.not_lt_zero _)), (Below.refl _ _).drew⟩
        case round =>
          rename World => w4
          obtain ⟨k, rfl, hk, HK, B4⟩ := hrel
          by_cases hk3 : k < 3
          · obtain ⟨x, hx⟩ : ∃ x, [f.r, f.s, f.e][k]? = some x := ⟨_, List.getElem?_eq_getElem (show k < [f.r, f.s, f.e].length from hk3)⟩
            have hcell := list3 ((B4.block _ hls).trans hL) k x hx
            obtain ⟨ok, hok⟩ : ∃ b, inR x (-1099511627776) 1099511627776 = b := ⟨_, rfl⟩
            have HX := Lib.hid hx
            have HOK := Lib.hid hok
            clear hx hok
            go_wp2_with fail
            refine (within_eq HOK.out _).mono ?_
            rintro e w' ⟨rfl, rfl⟩
            cases ok with
            | true =>
              go_wp2_with fail
              go_roundw
              case rel =>
                refine ⟨k + 1, by go_num, by omega, Lib.hid (fun j y hj hy => ?_), B4⟩
                by_cases hjk : j < k
                · exact HK.out j y hjk hy
                · obtain rfl : j = k := by omega
                  rw [HX.out] at hy
                  cases hy
                  exact HOK.out
              case measure => simp [intOf]; omega
            | false =>
              have hv := HV.out
              have hno : m.fnd.all F3.ok = false := by
                rw [List.all_eq_false]
                exact ⟨f, HMEM.out, by rw [not_ok3 f k x HX.out HOK.out]; exact Bool.false_ne_true⟩
              rw [hno] at hv
              have HV2 := Lib.hid hv
              clear hv hno HV
              go_wp2_with fail
              go_ret
              exact ⟨by rw [HV2.out]; rfl, B1.trans ((B3.trans (B4.mono B3.size)).mono B1.size)⟩
          · obtain rfl : k = 3 := by omega
            have hfo : f.ok = true := ok_of3 f (fun j x hx => HK.out j x (by
              have := (List.getElem?_eq_some_iff.1 hx).1
              exact this) hx)
            have hall2 : (m.fnd.take (i + 1)).all F3.ok = true := by rw [HTK.out, List.all_append, HA.out]; simp [hfo]
            have HALL2 := Lib.hid hall2
            clear hfo hall2
            go_wp2_with fail
            go_roundw
            case rel => exact ⟨i + 1, by go_num, by omega, HALL2, B3.trans (B4.mono B3.size)⟩
            case measure => simp [intOf]; omega
      · obtain rfl : i = m.fnd.length := by omega
        have ha := HA.out
        rw [List.take_length] at ha
        have hv := HV.out
        rw [ha] at hv
        have HV2 := Lib.hid hv
        clear hv ha HV
        go_wp2_with fail
        go_ret
        exact ⟨by rw [HV2.out]; rfl, B1.trans (B.mono B1.size)⟩
  · have hv0 : validM m = false := by
      rw [HV.out]
      by_cases hb : (b1 && b2 && b3 && b4) = true
      · rw [hb]
        by_cases hbl : m.body.length ≤ 65536
        · have hfl : ¬ m.fnd.length ≤ 1024 := fun h => hall ⟨hb, hbl, h⟩
          simp [hfl]
        · simp [hbl]
      · have hb' : (b1 && b2 && b3 && b4) = false := by simpa using hb
        rw [hb']
        simp
    rw [hv0]
    have HALL := Lib.hid hall
    clear hall HV hv0 KA
    go_wp2_with fail
    refine (within_eq H1.out _).mono ?_
    rintro e w' ⟨rfl, rfl⟩
    cases b1
    · go_wp2_with fail
      go_ret
      exact ⟨rfl, B1⟩
    go_wp2_with fail
    refine (within_eq H2.out _).mono ?_
    rintro e w' ⟨rfl, rfl⟩
    cases b2
    · go_wp2_with fail
      go_ret
      exact ⟨rfl, B1⟩
    go_wp2_with fail
    refine (within_eq H3.out _).mono ?_
    rintro e w' ⟨rfl, rfl⟩
    cases b3
    · go_wp2_with fail
      go_ret
      exact ⟨rfl, B1⟩
    go_wp2_with fail
    refine (within_eq H4.out _).mono ?_
    rintro e w' ⟨rfl, rfl⟩
    cases b4
    · go_wp2_with fail
      go_ret
      exact ⟨rfl, B1⟩
    by_cases hbl : m.body.length ≤ 65536
    · have hfl : ¬ m.fnd.length ≤ 1024 := fun h => HALL.out ⟨rfl, hbl, h⟩
      have hbl1 : ¬ (65536 : Int) < (m.body.length : Int) := by omega
      have hfl1 : (1024 : Int) < (m.fnd.length : Int) := by omega
      clear hbl hfl
      go_wp2_with fail
      go_ret
      exact ⟨rfl, B1⟩
    · have hbl1 : (65536 : Int) < (m.body.length : Int) := by omega
      clear hbl
      go_wp2_with fail
      go_ret
      exact ⟨rfl, B1⟩
end Go.Proofs.Ytadhghikanjkeaa
