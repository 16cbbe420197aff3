/- Several texts in one: JlC JlE JlD. -/
import Derived.Test.YtpehnggglolnoaaJlB
import Derived.Test.YtpehnggglolnoaaJrnM
/- Package journal: plain facts for the laws; the contracts in the forms that the laws use. -/
namespace Go.Proofs.Ytpehnggglolnoaa
open Go.RowKit

theorem frameM_lens (n : Int) (b : List UInt8) : 4 ≤ (frameM n b).length ∧ (frameM n b).length ≤ b.length + 40 := by
  have h1 : (zvar n).length ≤ 10 := uvar_len _
  have h1p : 1 ≤ (zvar n).length := uvar_pos _
  have h2 := uvar_len b.length
  have h2p := uvar_pos b.length
  have h3 := uvar_len (coreM n b).length
  have h3p := uvar_pos (coreM n b).length
  have h4 := uvar_len (bytesB frameL (coreM n b)).toNat
  have h5 := uvar_pos (bytesB frameL (coreM n b)).toNat
  have e : (coreM n b).length = (zvar n).length + ((uvar b.length).length + b.length) := by rw [coreM, rawW]; simp only [List.length_append]
  have e2 : (frameM n b).length = (uvar (coreM n b).length).length + (coreM n b).length + (uvar (bytesB frameL (coreM n b)).toNat).length := by rw [frameM, rawW]; simp only [List.length_append]
  omega
theorem scanL_short {b : List UInt8} (h : b.length ≤ 3) : scanL b = ([], 0) := by
  unfold scanL
  cases hb : b.length with
  | zero => rfl
  | succ n =>
    rw [scanJ]
    cases hf : firstJ ((0 : Nat) : Int) b with
    | none => rfl
    | some raw =>
      have h1 := (firstJ_pre hf).length_le
      have h2 := frameM_lens ((0 : Nat) : Int) raw
      omega
theorem framesM_lens (K : List (List UInt8)) (h : ∀ x ∈ K, x.length ≤ 10) : ∀ k, (framesM k K).length ≤ 50 * K.length := by
  induction K with
  | nil => intro k; simp [framesM]
  | cons x K ih =>
    intro k
    have h1 := frameM_lens (k : Int) x
    have h2 := ih (fun y hy => h y (List.mem_cons_of_mem _ hy)) (k + 1)
    have h3 := h x (by simp)
    rw [framesM, List.length_append, List.length_cons]
    omega
/-- A new disk. -/
theorem newD_log (room : Int) (f : Int) : LogOk (newD room) f [] := ⟨rfl, rfl, rfl⟩
theorem newD_used0 (room : Int) : (newD room).used = 0 := by unfold Dk.used newD sumL; simp; decide
theorem newD_okk (room : Int) (h0 : 0 ≤ room) (h1 : room ≤ 16777216) : DOk (newD room) := ⟨fun _ _ => rfl, fun _ => Nat.le_refl _, ⟨h0, h1⟩, by rw [newD_used0]; exact h0, by show (0 : Nat) ≤ 9223372036854775807; omega⟩
/-- A file that is none. -/
theorem logOpen_bad (D : Dk) {f : Int} (h : ¬ (0 ≤ f ∧ f < 64)) : D.logOpen f = (1, D, []) := by
  have : D.read f = ([], 1) := by unfold Dk.read; rw [if_pos h]
  unfold Dk.logOpen
  rw [this]
  rfl
/-- After a crash: what was there and durable lies at the beginning. -/
theorem crash_log {D : Dk} (hD : DOk D) {f : Int} {K : List (List UInt8)} (hf : 0 ≤ f ∧ f < 64) {t : List UInt8} (hfs : (D.fs f).1 = framesM 0 K ++ t) (hd : (D.fs f).2 = (framesM 0 K).length) (keep : List Int) (flip : Int) (hC : DOk (D.crash keep flip)) :
    ∃ M E, (D.crash keep flip).logOpen f = (0, E, K ++ M) ∧ LogOk E f (K ++ M) := by
  obtain ⟨h1, h2, h3⟩ := crash_keeps hD keep flip f
  rw [hd, hfs] at h3
  rw [List.take_left] at h3
  obtain ⟨b, hb⟩ : ∃ b, ((D.crash keep flip).fs f).1 = b := ⟨_, rfl⟩
  have hl := hC.flen f
  rw [hb] at h3 hl
  have hb2 : b = framesM 0 K ++ b.drop (framesM 0 K).length := by
    conv => lhs; rw [← List.take_append_drop (framesM 0 K).length b]
    rw [h3]
  have hc := frames_count K 0
  have hkl : (framesM 0 K).length ≤ b.length := by rw [hb2, List.length_append]; omega
  have hs := scanL_frames K (b.drop (framesM 0 K).length) (by omega) (by rw [← hb2]; omega)
  rw [← hb2] at hs
  obtain ⟨E, h4, h5, _⟩ := logOpen_on (D := D.crash keep flip) (f := f) hf rfl rfl
  rw [hb, hs] at h4 h5
  exact ⟨_, E, h4, h5⟩
/-- The step that fails. -/
theorem logApp_fails {D : Dk} {f : Int} {K : List (List UInt8)} (hD : DOk D) (h : LogOk D f K) (hf : 0 ≤ f ∧ f < 64) (b : List UInt8) (hb : b.length ≤ 65536) (hr : (D.used : Int) + (frameM (K.length : Int) b).length ≤ D.room) :
    ∃ E, (D.arm 0).logApp f ⟨K.length, false⟩ b = (19, E, ⟨K.length, true⟩) ∧ DOk E ∧ (E.fs f).1 = framesM 0 K ++ frameM (K.length : Int) b ∧ (E.fs f).2 = (D.fs f).2 ∧ E.off = true := by
  obtain ⟨G, hG⟩ : ∃ G, D.arm 0 = G := ⟨_, rfl⟩
  have hA : D.arm 0 = { D with armed := true, left := 0 } := by unfold Dk.arm; rw [h.on]; rfl
  obtain ⟨H, hH⟩ : ∃ H, G.fails = H := ⟨_, rfl⟩
  have h1 : G.fs = D.fs := by rw [← hG, hA]
  have h2 : G.off = false := by rw [← hG, hA]; exact h.on
  have h3 : G.failsB = true := by rw [← hG, hA]; rfl
  have h4 : H = { G with armed := false, off := true } := by rw [← hH, ← hG, hA]; rfl
  have h5 : G.room = D.room := by rw [← hG, hA]
  have h6 : G.used = D.used := by unfold Dk.used; rw [h1]
  have k1 : H.fs = D.fs := by rw [h4]; exact h1
  have k2 : H.off = true := by rw [h4]
  have k5 : H.room = D.room := by rw [h4]; exact h5
  have k6 : H.used = D.used := by unfold Dk.used; rw [k1]
  have k7 : H.left = 0 := by rw [h4, ← hG, hA]
  rw [hG]
  have ha : G.append f (frameM (K.length : Int) b) = (19, H.put f ((D.fs f).1 ++ frameM (K.length : Int) b) (D.fs f).2) := by
    unfold Dk.append
    rw [if_neg (fun h => h hf), h2, if_neg (by simp), h5, h6, if_neg (by omega), h3, hH, h1]
    rfl
  have hlen := frameM_lens (K.length : Int) b
  clear h4 hH hA
  refine ⟨H.put f ((D.fs f).1 ++ frameM (K.length : Int) b) (D.fs f).2, ?_, ?_, ?_, ?_, k2⟩
  · unfold Dk.logApp
    rw [if_neg (by omega), if_neg (by simp)]
    simp only [ha]
    rfl
  · refine put_ok ?_ hf ?_ ?_
    · exact ⟨by rw [k1]; exact hD.out, by rw [k1]; exact hD.dur, by rw [k5]; exact hD.room, by rw [k5, k6]; exact hD.used, by rw [k7]; omega⟩
    · have := hD.dur f
      rw [List.length_append]; omega
    · have hu := H.used_put f ((D.fs f).1 ++ frameM (K.length : Int) b) (D.fs f).2 hf.1 hf.2
      rw [k1, k6, List.length_append] at hu
      rw [k5]
      omega
  · rw [put_fs0, h.fs]
  · rw [put_fs0]
    show (if _ then _ else _) = _
    rw [if_neg (fun e => by have := congrArg List.length e; rw [List.length_append, List.length_nil] at this; omega)]
section
variable (w : World) {p : Nat} {X : Nat → Prop} {D : Dk}
/-- A disk of the law's own. -/
theorem fresh_any (room : Int) (h0 : 0 ≤ room) (h1 : room ≤ 16777216) : Calls Try.prog 10 #[.int .i64 room] w fun e w' => ∃ p X, e = .returned (.pointer (some ⟨p, 0, none⟩)) ∧ DAt w' p X (newD room) ∧ (∀ b, X b → w.heap.size ≤ b) ∧ Below w.heap.size w w' := by
  go_enter Try.func10, Try.ntmps10
  go_wp2_with fail
  refine (dnew w room h0 h1).mono ?_
  rintro e w1 ⟨p, X, rfl, D1, hX, B1⟩
  go_wp2_with fail
  go_ret
  exact ⟨p, X, rfl, D1, hX, B1⟩
theorem open_ok (f : Int) (h : DAt w p X D) {E : Dk} {K : List (List UInt8)} (ho : D.logOpen f = (0, E, K)) :
    Calls Try.prog 11 #[.pointer (some ⟨p, 0, none⟩), .int .i64 f] w fun en w' => ∃ q v us X', en = .returned (.tuple #[.pointer (some ⟨q, 0, none⟩), v, .int .i64 0]) ∧ DAt w' p X' E ∧ DStep X X' w w' ∧ LgAt w' q p f ⟨K.length, false⟩ ∧ w.heap.size ≤ q ∧ ¬ X' q ∧ LsX w' (fun b => X' b ∨ b = q) w.heap.size v us K := by
  refine (lgopen_any f w h).mono ?_
  rintro e w' ⟨X', hD, S, ⟨_, q, v, us, rfl, h1, h2, h3, h4⟩ | ⟨h0, _⟩⟩
  · rw [ho] at hD h1 h4
    exact ⟨q, v, us, X', rfl, hD, S, h1, h2, h3, h4.less (fun b hb => .inl hb)⟩
  · rw [ho] at h0
    exact absurd rfl h0
theorem open_bad (f : Int) (h : DAt w p X D) {E : Dk} {K : List (List UInt8)} {r : Int} (ho : D.logOpen f = (r, E, K)) (hr : r ≠ 0) :
    Calls Try.prog 11 #[.pointer (some ⟨p, 0, none⟩), .int .i64 f] w fun en w' => ∃ X', en = .returned (.tuple #[.pointer none, .slice none 0 0, .int .i64 r]) ∧ DAt w' p X' E ∧ DStep X X' w w' := by
  refine (lgopen_any f w h).mono ?_
  rintro e w' ⟨X', hD, S, ⟨h0, _⟩ | ⟨_, rfl⟩⟩
  · rw [ho] at h0
    exact absurd h0 hr
  · rw [ho] at hD ⊢
    exact ⟨X', rfl, hD, S⟩
end
end Go.Proofs.Ytpehnggglolnoaa

/- Package journal: a log whose power may fail, plainly. -/
namespace Go.Proofs.Ytpehnggglolnoaa
open Go.RowKit

/-- A log on a disk of its own whose power is on. -/
structure UpA (D : Dk) (K : List (List UInt8)) : Prop where
  on : D.off = false
  room : D.room = 20000
  used : D.used ≤ 130 * K.length
  fs : (D.fs 1).1 = framesM 0 K
  dur : (D.fs 1).2 = (framesM 0 K).length
  only : Only D 1
/-- One whose power failed at a record. -/
structure DownA (D : Dk) (K : List (List UInt8)) (x : List UInt8) : Prop where
  fs : (D.fs 1).1 = framesM 0 K ++ frameM (K.length : Int) x
  dur : (D.fs 1).2 = (framesM 0 K).length
  only : Only D 1
theorem fails_off {D : Dk} (h : D.failsB = false) : D.fails.off = D.off := by
  unfold Dk.fails
  unfold Dk.failsB at h
  split
  · rename_i ha
    rw [ha] at h
    rw [if_pos (by simpa using Nat.pos_of_ne_zero (by simpa using h))]
  · rfl
theorem fails_used (D : Dk) : D.fails.used = D.used := by unfold Dk.used; rw [(fails_fs D).1]
theorem put_off (D : Dk) (k : Int) (b : List UInt8) (d : Nat) : (D.put k b d).off = D.off := rfl
theorem put_room (D : Dk) (k : Int) (b : List UInt8) (d : Nat) : (D.put k b d).room = D.room := rfl
theorem logApp_arm {D : Dk} {K : List (List UInt8)} (h : UpA D K) (b : List UInt8) (hb : b.length ≤ 90) (hn : K.length ≤ 10) :
    (∃ E, D.logApp 1 ⟨K.length, false⟩ b = (0, E, ⟨K.length + 1, false⟩) ∧ UpA E (K ++ [b])) ∨ (∃ E, D.logApp 1 ⟨K.length, false⟩ b = (19, E, ⟨K.length, true⟩) ∧ DownA E K b) := by
  have hl := frameM_lens (K.length : Int) b
  have hu := h.used
  obtain ⟨f, hf⟩ : ∃ f, frameM (K.length : Int) b = f := ⟨_, rfl⟩
  have hsn : framesM 0 (K ++ [b]) = framesM 0 K ++ f := by rw [framesM_snoc, Nat.zero_add, hf]
  obtain ⟨r, hr⟩ : ∃ r, (if D.failsB then (19 : Int) else 0) = r := ⟨_, rfl⟩
  obtain ⟨G, hG⟩ : ∃ G, D.fails.put 1 ((D.fs 1).1 ++ f) (D.fs 1).2 = G := ⟨_, rfl⟩
  rw [hf] at hl
  have ha : D.append 1 f = (r, G) := by
    unfold Dk.append
    rw [if_neg (by omega), h.on, if_neg (by simp), if_neg (by rw [h.room]; omega), hr, hG]
  have hne : ¬ (framesM 0 K ++ f = []) := fun e => by have := congrArg List.length e; rw [List.length_append, List.length_nil] at this; omega
  have g1 : (G.fs 1).1 = framesM 0 K ++ f := by rw [← hG, put_fs0, h.fs]
  have g2 : (G.fs 1).2 = (framesM 0 K).length := by
    rw [← hG, put_fs0, h.fs]
    show (if _ then _ else _) = _
    rw [if_neg hne, h.dur]
  have g3 : Only G 1 := fun j hj => by rw [← hG, put_fs1 _ _ _ hj, (fails_fs D).1]; exact h.only j hj
  have g4 : G.room = 20000 := by rw [← hG, put_room, (fails_fs D).2, h.room]
  have g5 : G.used ≤ 130 * (K.length + 1) := by
    have hp := D.fails.used_put 1 ((D.fs 1).1 ++ f) (D.fs 1).2 (by decide) (by decide)
    rw [hG, fails_used, (fails_fs D).1, List.length_append] at hp
    omega
  have hd : D.failsB = false → G.off = false := fun h0 => by rw [← hG, put_off, fails_off h0, h.on]
  clear hG
  have hA : ∀ c : Bool, D.failsB = c → r = (if c then (19 : Int) else 0) := fun c hc => by rw [← hr, hc]
  clear hr
  have hlen : ¬ 65536 < b.length := by omega
  cases hB : D.failsB with
  | true =>
    obtain rfl := hA _ hB
    refine .inr ⟨G, ?_, by rw [hf]; exact g1, g2, g3⟩
    unfold Dk.logApp
    rw [if_neg hlen, if_neg (by simp), hf]
    simp only [ha]
    rfl
  | false =>
    obtain rfl := hA _ hB
    have ho := hd hB
    cases hC : G.failsB with
    | true =>
      have hs : G.sync = (19, G.fails) := by unfold Dk.sync; rw [ho, hC]; rfl
      refine .inr ⟨G.fails, ?_, by rw [hf, (fails_fs G).1]; exact g1, by rw [(fails_fs G).1]; exact g2, fun j hj => by rw [(fails_fs G).1]; exact g3 j hj⟩
      unfold Dk.logApp
      rw [if_neg hlen, if_neg (by simp), hf]
      simp only [ha, hs]
      rfl
    | false =>
      have hs : G.sync = (0, G.fails.harden) := by unfold Dk.sync; rw [ho, hC]; rfl
      refine .inl ⟨G.fails.harden, ?_, ?_⟩
      · unfold Dk.logApp
        rw [if_neg hlen, if_neg (by simp), hf]
        simp only [ha, hs]
        rfl
      · refine ⟨(fails_off hC).trans ho, (fails_fs G).2.trans g4, ?_, ?_, ?_, fun j hj => ?_⟩
        · rw [harden_used, fails_used, List.length_append]; exact g5
        · show (G.fails.fs 1).1 = _
          rw [(fails_fs G).1, g1, hsn]
        · show (G.fails.fs 1).1.length = _
          rw [(fails_fs G).1, g1, hsn]
        · show (G.fails.fs j).1 = _
          rw [(fails_fs G).1]
          exact g3 j hj

/-- Some first records of a list are in the log; its power may have failed at the one behind them. -/
def ArmA (R : List (List UInt8)) (D : Dk) (g : Lg) (i done : Nat) : Prop :=
  (done = i ∧ g = ⟨i, false⟩ ∧ UpA D (R.take i)) ∨ (done < i ∧ g = ⟨done, true⟩ ∧ ∃ x, R[done]? = some x ∧ DownA D (R.take done) x)
theorem ArmA.step {R : List (List UInt8)} {D : Dk} {g : Lg} {i done : Nat} (h : ArmA R D g i done) {b : List UInt8} (hi : R[i]? = some b) (hb : b.length ≤ 90) (h10 : R.length ≤ 10) :
    ∃ r E g', D.logApp 1 g b = (r, E, g') ∧ ((r = 0 ∧ ArmA R E g' (i + 1) (done + 1)) ∨ (r = 19 ∧ ArmA R E g' (i + 1) done)) := by
  have hlt : i < R.length := by
    by_cases h : i < R.length
    · exact h
    · rw [List.getElem?_eq_none (by omega)] at hi; cases hi
  have hbe : R[i] = b := by rw [List.getElem?_eq_getElem hlt] at hi; exact Option.some.inj hi
  have hl : (R.take i).length = i := by rw [List.length_take]; omega
  rcases h with ⟨rfl, rfl, hU⟩ | ⟨hd, rfl, x, hx, hD⟩
  · have hs := logApp_arm hU b hb (by omega)
    rw [hl] at hs
    have hsn : R.take done ++ [b] = R.take (done + 1) := by rw [List.take_succ_eq_append_getElem hlt, hbe]
    rcases hs with ⟨E, h1, h2⟩ | ⟨E, h1, h2⟩
    · exact ⟨0, E, _, h1, .inl ⟨rfl, .inl ⟨rfl, rfl, by rw [← hsn]; exact h2⟩⟩⟩
    · exact ⟨19, E, _, h1, .inr ⟨rfl, .inr ⟨by omega, rfl, b, hi, h2⟩⟩⟩
  · exact ⟨19, D, _, logApp_down D 1 done b (by omega), .inr ⟨rfl, .inr ⟨by omega, rfl, x, hx, hD⟩⟩⟩
/-- A frame that is cut off is none. -/
theorem scan_cut (n : Nat) (hn : n ≤ 1000000000) (x : List UInt8) (hl : (frameM (n : Int) x).length ≤ 1000000000) (s : Nat) (hs : s < (frameM (n : Int) x).length) : (scanJ ((frameM (n : Int) x).take s).length n ((frameM (n : Int) x).take s)).1 = [] := by
  obtain ⟨t, ht⟩ : ∃ t, (frameM (n : Int) x).take s = t := ⟨_, rfl⟩
  have hp : t <+: frameM (n : Int) x := ht ▸ List.take_prefix s _
  have hlt : t.length < (frameM (n : Int) x).length := by rw [← ht, List.length_take]; omega
  rw [ht]
  cases htl : t.length with
  | zero => rfl
  | succ k =>
    rw [scanJ]
    cases hf : firstJ (n : Int) t with
    | none => rfl
    | some raw =>
      exfalso
      have h1 := firstJ_pre hf
      have h2 := h1.trans hp
      have h3 := firstJ_of (n := (n : Int)) ⟨by omega, by omega⟩ (by omega) h2
      have h4 := firstJ_of (n := (n : Int)) (raw := x) ⟨by omega, by omega⟩ (by omega) (List.prefix_refl _)
      rw [h3] at h4
      cases h4
      have := h1.length_le
      omega
/-- What Open finds behind a crash. -/
theorem ArmA.end {R : List (List UInt8)} {D : Dk} {g : Lg} {done : Nat} (h : ArmA R D g R.length done) (hD : DOk D) (h10 : R.length ≤ 10) (keep : Int) :
    ∃ n E, (D.crash [keep] (-1)).logOpen 1 = (0, E, R.take n) ∧ done ≤ n ∧ n ≤ done + 1 ∧ n ≤ R.length := by
  obtain ⟨E, h4, h5, _⟩ := logOpen_on (D := D.crash [keep] (-1)) (f := 1) (by decide) rfl rfl
  have hfl := hD.flen 1
  rcases h with ⟨rfl, _, hU⟩ | ⟨hd, rfl, x, hx, hW⟩
  · have hc := crash_one hD hU.only (by decide) hU.fs hU.dur [keep] rfl (-1)
    rw [if_neg (by omega), List.take_of_length_le (by omega)] at hc
    rw [List.take_of_length_le (Nat.le_refl _)] at hc
    rw [hU.fs, List.take_of_length_le (Nat.le_refl _)] at hfl
    rw [hc, scanL_all R (by omega) (by omega)] at h4
    exact ⟨R.length, E, by rw [h4, List.take_of_length_le (Nat.le_refl _)], by omega, by omega, by omega⟩
  · have hdl : (R.take done).length = done := by rw [List.length_take]; omega
    have hc := crash_one hD hW.only (by decide) hW.fs hW.dur [keep] rfl (-1)
    rw [if_neg (by omega)] at hc
    obtain ⟨s, hs⟩ : ∃ s, keptN [keep] 0 ((framesM 0 (R.take done) ++ frameM ((R.take done).length : Int) x).length - (framesM 0 (R.take done)).length) = s := ⟨_, rfl⟩
    rw [hs, List.take_append, List.take_of_length_le (by omega), Nat.add_sub_cancel_left, hdl] at hc
    rw [hW.fs, hdl, List.length_append] at hfl
    have hxb : done < R.length := hd
    have hxe : R[done] = x := by rw [List.getElem?_eq_getElem hxb] at hx; exact Option.some.inj hx
    by_cases hlt : s < (frameM (done : Int) x).length
    · have h6 := scan_cut done (by omega) x (by omega) s hlt
      have h7 := scanL_frames (R.take done) ((frameM (done : Int) x).take s) (by omega) (by rw [List.length_append, List.length_take]; omega)
      rw [hdl, h6, List.append_nil] at h7
      rw [hc, h7] at h4
      exact ⟨done, E, h4, by omega, by omega, by omega⟩
    · have h9 : (frameM (done : Int) x).take s = frameM (done : Int) x := List.take_of_length_le (by omega)
      rw [h9] at hc
      have hsn := framesM_snoc 0 (R.take done) x
      rw [hdl, Nat.zero_add] at hsn
      have htk : R.take done ++ [x] = R.take (done + 1) := by rw [List.take_succ_eq_append_getElem hxb, hxe]
      rw [htk] at hsn
      rw [← hsn] at hc
      have h8 := congrArg List.length hsn
      rw [List.length_append] at h8
      rw [hc, scanL_all _ (by rw [List.length_take]; omega) (by omega)] at h4
      exact ⟨done + 1, E, h4, by omega, by omega, by omega⟩
/-- A new disk, armed. -/
theorem armed_new (n : Int) : ∃ E, (newD 20000).logOpen 1 = (0, E, []) ∧ UpA (E.arm n) [] := by
  obtain ⟨E, h1, h2, h3, h4, h5, h6⟩ := logOpen_all (newD_okk 20000 (by decide) (by decide)) (newD_log 20000 1) (by decide)
  rw [newD_used0] at h4
  have hA : E.arm n = { E with armed := decide (0 ≤ n), left := n.toNat } := by unfold Dk.arm; rw [h2.on]; rfl
  refine ⟨E, h1, ?_⟩
  rw [hA]
  refine ⟨h2.on, h3, ?_, h2.fs, ?_, fun j hj => ?_⟩
  · show E.used ≤ _
    omega
  · show (E.fs 1).2 = _
    rw [h6, h2.fs]
  · show (E.fs j).1 = _
    rw [h5 j hj]
    rfl
end Go.Proofs.Ytpehnggglolnoaa

/- Package journal: the state of a law with a disk and a log. -/
namespace Go.Proofs.Ytpehnggglolnoaa
open Go.RowKit

/-- The disk of a law that began in w0. -/
structure JS (w0 w : World) (p : Nat) (X : Nat → Prop) (D : Dk) : Prop where
  d : DAt w p X D
  lo : ∀ b, X b → w0.heap.size ≤ b
  be : Below w0.heap.size w0 w
/-- And a log on it. -/
structure JL (w0 w : World) (p q : Nat) (X : Nat → Prop) (D : Dk) (f : Int) (g : Lg) : Prop where
  js : JS w0 w p X D
  lg : LgAt w q p f g
  qlo : w0.heap.size ≤ q
  nq : ¬ X q
section
variable {w0 w w' : World} {p q : Nat} {f : Int} {g g' : Lg} {X X' : Nat → Prop} {D E : Dk}
theorem JS.later (h : JS w0 w p X D) (B : Below w.heap.size w w') : JS w0 w' p X D := ⟨h.d.later B, h.lo, bel h.be B⟩
theorem JS.step (h : JS w0 w p X D) (hD : DAt w' p X' E) (S : DStep X X' w w') : JS w0 w' p X' E :=
  ⟨hD, S.ge h.be.size h.lo, h.be.trans (S.toBelow h.be.size h.lo)⟩
theorem JS.lstep (h : JS w0 w p X D) (hq : w0.heap.size ≤ q) (hD : DAt w' p X' E) (S : DStep (fun b => X b ∨ b = q) (fun b => X' b ∨ b = q) w w') : JS w0 w' p X' E := by
  have hl : ∀ b, (X b ∨ b = q) → w0.heap.size ≤ b := fun b hb => hb.elim (h.lo b) (fun e => e ▸ hq)
  exact ⟨hD, fun b hb => S.ge h.be.size hl b (.inl hb), h.be.trans (S.toBelow h.be.size hl)⟩
theorem JL.later (h : JL w0 w p q X D f g) (B : Below w.heap.size w w') : JL w0 w' p q X D f g := ⟨h.js.later B, h.lg.later B, h.qlo, h.nq⟩
theorem JL.step (h : JL w0 w p q X D f g) (hD : DAt w' p X' E) (S : DStep X X' w w') : JL w0 w' p q X' E f g :=
  ⟨h.js.step hD S, h.lg.step S h.nq, h.qlo, fun hx => (S.grow q hx).elim h.nq (fun h1 => by have := h.lg.lt; omega)⟩
/-- Append, on a log of the law's. -/
theorem jappend (h : JL w0 w p q X D f g) (bv : Value) (b : List UInt8) (hb : Rv w bv b.length (b.map vB)) (hbl : b.length ≤ 1000000000) (hn : g.n ≤ 1000000000) {r : Int} (ha : D.logApp f g b = (r, E, g')) :
    Calls Try.prog 17 #[.pointer (some ⟨q, 0, none⟩), bv] w fun e w' => e = .returned (.int .i64 r) ∧ ∃ X', JL w0 w' p q X' E f g' ∧ DStep (fun b => X b ∨ b = q) (fun b => X' b ∨ b = q) w w' := by
  refine (lappend f g bv b w h.js.d h.lg h.nq hb hbl hn).mono ?_
  rw [ha]
  rintro e w' ⟨rfl, X', hD, hg, hq, S⟩
  exact ⟨rfl, X', ⟨h.js.lstep h.qlo hD S, hg, h.qlo, hq⟩, S⟩
theorem jopen (h : JS w0 w p X D) (f : Int) {K : List (List UInt8)} (ho : D.logOpen f = (0, E, K)) :
    Calls Try.prog 11 #[.pointer (some ⟨p, 0, none⟩), .int .i64 f] w fun en w' => ∃ q v us X', en = .returned (.tuple #[.pointer (some ⟨q, 0, none⟩), v, .int .i64 0]) ∧ JL w0 w' p q X' E f ⟨K.length, false⟩ ∧ w.heap.size ≤ q ∧ DStep X X' w w' ∧ LsX w' (fun b => X' b ∨ b = q) w.heap.size v us K := by
  refine (open_ok w f h.d ho).mono ?_
  rintro e w' ⟨q, v, us, X', rfl, hD, S, hg, hq, hn, L⟩
  exact ⟨q, v, us, X', rfl, ⟨h.step hD S, hg, Nat.le_trans h.be.size hq, hn⟩, hq, S, L⟩
end
set_option maxRecDepth 10000 in
theorem llen_any (w : World) {p q : Nat} {f : Int} {g : Lg} (h : LgAt w q p f g) : Calls Try.prog 42 #[.pointer (some ⟨q, 0, none⟩)] w fun e w' => e = .returned (.int .i64 (g.n : Int)) ∧ ∃ k, w' = w.drewN k := by
  have c2 := h.c2
  go_enter Try.func42, Try.ntmps42
  go_wp2
  go_ret
  exact ⟨rfl, 0, rfl⟩
set_option maxRecDepth 10000 in
theorem lup_any (w : World) {p q : Nat} {f : Int} {g : Lg} (h : LgAt w q p f g) : Calls Try.prog 43 #[.pointer (some ⟨q, 0, none⟩)] w fun e w' => e = .returned (.bool (!g.down)) ∧ ∃ k, w' = w.drewN k := by
  have c3 := h.c3
  have hnot : ∀ (x : Bool) (w : World), (Op.unary .not (.bool x)).run Try.prog w = .ok (.bool (!x)) w := fun _ _ => rfl
  go_enter Try.func43, Try.ntmps43
  go_wp2
  go_ret
  exact ⟨rfl, 0, rfl⟩

/-- A log of small records on a disk with room for many. -/
structure Fit (D : Dk) (f : Int) (n : Nat) (K : List (List UInt8)) : Prop where
  ok : LogOk D f K
  room : D.room = 5000
  used : D.used ≤ 50 * n
  dur : ∀ j, (D.fs j).2 = (D.fs j).1.length
theorem Fit.new (f : Int) (hf : 0 ≤ f ∧ f < 64) : ∃ E, (newD 5000).logOpen f = (0, E, []) ∧ Fit E f 0 [] := by
  obtain ⟨E, h1, h2, h3, h4, _, h6⟩ := logOpen_all (newD_okk 5000 (by decide) (by decide)) (newD_log 5000 f) hf
  rw [newD_used0] at h4
  exact ⟨E, h1, h2, h3, by omega, h6⟩
theorem Fit.app {D : Dk} {f : Int} {n : Nat} {K : List (List UInt8)} (h : Fit D f n K) (hf : 0 ≤ f ∧ f < 64) {b : List UInt8} (hb : b.length ≤ 10) (hn : n ≤ 90) : ∃ E, D.logApp f ⟨K.length, false⟩ b = (0, E, ⟨K.length + 1, false⟩) ∧ Fit E f (n + 1) (K ++ [b]) ∧ ∀ j, j ≠ f → (E.fs j).1 = (D.fs j).1 := by
  have hl := frameM_lens (K.length : Int) b
  have hu := h.used
  obtain ⟨E, h1, h2, h3, h4, h5, h6⟩ := logApp_ok h.ok hf b (by omega) (by rw [h.room]; omega)
  exact ⟨E, h1, ⟨h2, h3.trans h.room, by omega, h6⟩, h5⟩
end Go.Proofs.Ytpehnggglolnoaa
