/- Several texts in one: JlC JlD. -/
import Derived.Test.YtfdacckkdjpjhaaJlB
import Derived.Test.YtfdacckkdjpjhaaJrnM
/- Package journal: plain facts for the laws; the contracts in the forms that the laws use. -/
namespace Go.Proofs.Ytfdacckkdjpjhaa
open Go.RowKit

theorem frameM_lens (n : Int) (b : List UInt8) : 4 ≤ (frameM n b).length ∧ (frameM n b).length ≤ b.length + 40 := by
  have h1 : (zvar n).length ≤ 10 := uvar_len _
  have h1p : 1 ≤ (zvar n).length := uvar_pos _
  have h2 := uvar_len b.length
  have h2p := uvar_pos b.length
  have h3 := uvar_len (coreM n b).length
  have h3p := uvar_pos (coreM n b).length
  have h4 := uvar_len (bytesB frameL (coreM n b)).toNat
  have h5 := uvar_pos (bytesB frameL (coreM n b)).toNat
  have e : (coreM n b).length = (zvar n).length + ((uvar b.length).length + b.length) := by rw [coreM, rawW]; simp only [List.length_append]
  have e2 : (frameM n b).length = (uvar (coreM n b).length).length + (coreM n b).length + (uvar (bytesB frameL (coreM n b)).toNat).length := by rw [frameM, rawW]; simp only [List.length_append]
  omega
theorem scanL_short {b : List UInt8} (h : b.length ≤ 3) : scanL b = ([], 0) := by
  unfold scanL
  cases hb : b.length with
  | zero => rfl
  | succ n =>
    rw [scanJ]
    cases hf : firstJ ((0 : Nat) : Int) b with
    | none => rfl
    | some raw =>
      have h1 := (firstJ_pre hf).length_le
      have h2 := frameM_lens ((0 : Nat) : Int) raw
      omega
theorem framesM_lens (K : List (List UInt8)) (h : ∀ x ∈ K, x.length ≤ 10) : ∀ k, (framesM k K).length ≤ 50 * K.length := by
  induction K with
  | nil => intro k; simp [framesM]
  | cons x K ih =>
    intro k
    have h1 := frameM_lens (k : Int) x
    have h2 := ih (fun y hy => h y (List.mem_cons_of_mem _ hy)) (k + 1)
    have h3 := h x (by simp)
    rw [framesM, List.length_append, List.length_cons]
    omega
/-- A new disk. -/
theorem newD_log (room : Int) (f : Int) : LogOk (newD room) f [] := ⟨rfl, rfl, rfl⟩
theorem newD_used0 (room : Int) : (newD room).used = 0 := by unfold Dk.used newD sumL; simp; decide
theorem newD_okk (room : Int) (h0 : 0 ≤ room) (h1 : room ≤ 16777216) : DOk (newD room) := ⟨fun _ _ => rfl, fun _ => Nat.le_refl _, ⟨h0, h1⟩, by rw [newD_used0]; exact h0, by show (0 : Nat) ≤ 9223372036854775807; omega⟩
/-- A file that is none. -/
theorem logOpen_bad (D : Dk) {f : Int} (h : ¬ (0 ≤ f ∧ f < 64)) : D.logOpen f = (1, D, []) := by
  have : D.read f = ([], 1) := by unfold Dk.read; rw [if_pos h]
  unfold Dk.logOpen
  rw [this]
  rfl
/-- After a crash: what was there and durable lies at the beginning. -/
theorem crash_log {D : Dk} (hD : DOk D) {f : Int} {K : List (List UInt8)} (hf : 0 ≤ f ∧ f < 64) {t : List UInt8} (hfs : (D.fs f).1 = framesM 0 K ++ t) (hd : (D.fs f).2 = (framesM 0 K).length) (keep : List Int) (flip : Int) (hC : DOk (D.crash keep flip)) :
    ∃ M E, (D.crash keep flip).logOpen f = (0, E, K ++ M) ∧ LogOk E f (K ++ M) := by
  obtain ⟨h1, h2, h3⟩ := crash_keeps hD keep flip f
  rw [hd, hfs] at h3
  rw [List.take_left] at h3
  obtain ⟨b, hb⟩ : ∃ b, ((D.crash keep flip).fs f).1 = b := ⟨_, rfl⟩
  have hl := hC.flen f
  rw [hb] at h3 hl
  have hb2 : b = framesM 0 K ++ b.drop (framesM 0 K).length := by
    conv => lhs; rw [← List.take_append_drop (framesM 0 K).length b]
    rw [h3]
  have hc := frames_count K 0
  have hkl : (framesM 0 K).length ≤ b.length := by rw [hb2, List.length_append]; omega
  have hs := scanL_frames K (b.drop (framesM 0 K).length) (by omega) (by rw [← hb2]; omega)
  rw [← hb2] at hs
  obtain ⟨E, h4, h5, _⟩ := logOpen_on (D := D.crash keep flip) (f := f) hf rfl rfl
  rw [hb, hs] at h4 h5
  exact ⟨_, E, h4, h5⟩
/-- The step that fails. -/
theorem logApp_fails {D : Dk} {f : Int} {K : List (List UInt8)} (hD : DOk D) (h : LogOk D f K) (hf : 0 ≤ f ∧ f < 64) (b : List UInt8) (hb : b.length ≤ 65536) (hr : (D.used : Int) + (frameM (K.length : Int) b).length ≤ D.room) :
    ∃ E, (D.arm 0).logApp f ⟨K.length, false⟩ b = (19, E, ⟨K.length, true⟩) ∧ DOk E ∧ (E.fs f).1 = framesM 0 K ++ frameM (K.length : Int) b ∧ (E.fs f).2 = (D.fs f).2 ∧ E.off = true := by
  obtain ⟨G, hG⟩ : ∃ G, D.arm 0 = G := ⟨_, rfl⟩
  have hA : D.arm 0 = { D with armed := true, left := 0 } := by unfold Dk.arm; rw [h.on]; rfl
  obtain ⟨H, hH⟩ : ∃ H, G.fails = H := ⟨_, rfl⟩
  have h1 : G.fs = D.fs := by rw [← hG, hA]
  have h2 : G.off = false := by rw [← hG, hA]; exact h.on
  have h3 : G.failsB = true := by rw [← hG, hA]; rfl
  have h4 : H = { G with armed := false, off := true } := by rw [← hH, ← hG, hA]; rfl
  have h5 : G.room = D.room := by rw [← hG, hA]
  have h6 : G.used = D.used := by unfold Dk.used; rw [h1]
  have k1 : H.fs = D.fs := by rw [h4]; exact h1
  have k2 : H.off = true := by rw [h4]
  have k5 : H.room = D.room := by rw [h4]; exact h5
  have k6 : H.used = D.used := by unfold Dk.used; rw [k1]
  have k7 : H.left = 0 := by rw [h4, ← hG, hA]
  rw [hG]
  have ha : G.append f (frameM (K.length : Int) b) = (19, H.put f ((D.fs f).1 ++ frameM (K.length : Int) b) (D.fs f).2) := by
    unfold Dk.append
    rw [if_neg (fun h => h hf), h2, if_neg (by simp), h5, h6, if_neg (by omega), h3, hH, h1]
    rfl
  have hlen := frameM_lens (K.length : Int) b
  clear h4 hH hA
  refine ⟨H.put f ((D.fs f).1 ++ frameM (K.length : Int) b) (D.fs f).2, ?_, ?_, ?_, ?_, k2⟩
  · unfold Dk.logApp
    rw [if_neg (by omega), if_neg (by simp)]
    simp only [ha]
    rfl
  · refine put_ok ?_ hf ?_ ?_
    · exact ⟨by rw [k1]; exact hD.out, by rw [k1]; exact hD.dur, by rw [k5]; exact hD.room, by rw [k5, k6]; exact hD.used, by rw [k7]; omega⟩
    · have := hD.dur f
      rw [List.length_append]; omega
    · have hu := H.used_put f ((D.fs f).1 ++ frameM (K.length : Int) b) (D.fs f).2 hf.1 hf.2
      rw [k1, k6, List.length_append] at hu
      rw [k5]
      omega
  · rw [put_fs0, h.fs]
  · rw [put_fs0]
    show (if _ then _ else _) = _
    rw [if_neg (fun e => by have := congrArg List.length e; rw [List.length_append, List.length_nil] at this; omega)]
section
variable (w : World) {p : Nat} {X : Nat → Prop} {D : Dk}
theorem open_ok (f : Int) (h : DAt w p X D) {E : Dk} {K : List (List UInt8)} (ho : D.logOpen f = (0, E, K)) :
    Calls Try.prog 11 #[.pointer (some ⟨p, 0, none⟩), .int .i64 f] w fun en w' => ∃ q v us X', en = .returned (.tuple #[.pointer (some ⟨q, 0, none⟩), v, .int .i64 0]) ∧ DAt w' p X' E ∧ DStep X X' w w' ∧ LgAt w' q p f ⟨K.length, false⟩ ∧ w.heap.size ≤ q ∧ ¬ X' q ∧ LsX w' (fun b => X' b ∨ b = q) w.heap.size v us K := by
  refine (lgopen_any f w h).mono ?_
  rintro e w' ⟨X', hD, S, ⟨_, q, v, us, rfl, h1, h2, h3, h4⟩ | ⟨h0, _⟩⟩
  · rw [ho] at hD h1 h4
    exact ⟨q, v, us, X', rfl, hD, S, h1, h2, h3, h4.less (fun b hb => .inl hb)⟩
  · rw [ho] at h0
    exact absurd rfl h0
theorem open_bad (f : Int) (h : DAt w p X D) {E : Dk} {K : List (List UInt8)} {r : Int} (ho : D.logOpen f = (r, E, K)) (hr : r ≠ 0) :
    Calls Try.prog 11 #[.pointer (some ⟨p, 0, none⟩), .int .i64 f] w fun en w' => ∃ X', en = .returned (.tuple #[.pointer none, .slice none 0 0, .int .i64 r]) ∧ DAt w' p X' E ∧ DStep X X' w w' := by
  refine (lgopen_any f w h).mono ?_
  rintro e w' ⟨X', hD, S, ⟨h0, _⟩ | ⟨_, rfl⟩⟩
  · rw [ho] at h0
    exact absurd h0 hr
  · rw [ho] at hD ⊢
    exact ⟨X', rfl, hD, S⟩
end
end Go.Proofs.Ytfdacckkdjpjhaa

/- Package journal: the state of a law with a disk and a log. -/
namespace Go.Proofs.Ytfdacckkdjpjhaa
open Go.RowKit

/-- The disk of a law that began in w0. -/
structure JS (w0 w : World) (p : Nat) (X : Nat → Prop) (D : Dk) : Prop where
  d : DAt w p X D
  lo : ∀ b, X b → w0.heap.size ≤ b
  be : Below w0.heap.size w0 w
/-- And a log on it. -/
structure JL (w0 w : World) (p q : Nat) (X : Nat → Prop) (D : Dk) (f : Int) (g : Lg) : Prop where
  js : JS w0 w p X D
  lg : LgAt w q p f g
  qlo : w0.heap.size ≤ q
  nq : ¬ X q
section
variable {w0 w w' : World} {p q : Nat} {f : Int} {g g' : Lg} {X X' : Nat → Prop} {D E : Dk}
theorem JS.later (h : JS w0 w p X D) (B : Below w.heap.size w w') : JS w0 w' p X D := ⟨h.d.later B, h.lo, bel h.be B⟩
theorem JS.step (h : JS w0 w p X D) (hD : DAt w' p X' E) (S : DStep X X' w w') : JS w0 w' p X' E :=
  ⟨hD, S.ge h.be.size h.lo, h.be.trans (S.toBelow h.be.size h.lo)⟩
theorem JS.lstep (h : JS w0 w p X D) (hq : w0.heap.size ≤ q) (hD : DAt w' p X' E) (S : DStep (fun b => X b ∨ b = q) (fun b => X' b ∨ b = q) w w') : JS w0 w' p X' E := by
  have hl : ∀ b, (X b ∨ b = q) → w0.heap.size ≤ b := fun b hb => hb.elim (h.lo b) (fun e => e ▸ hq)
  exact ⟨hD, fun b hb => S.ge h.be.size hl b (.inl hb), h.be.trans (S.toBelow h.be.size hl)⟩
theorem JL.later (h : JL w0 w p q X D f g) (B : Below w.heap.size w w') : JL w0 w' p q X D f g := ⟨h.js.later B, h.lg.later B, h.qlo, h.nq⟩
theorem JL.step (h : JL w0 w p q X D f g) (hD : DAt w' p X' E) (S : DStep X X' w w') : JL w0 w' p q X' E f g :=
  ⟨h.js.step hD S, h.lg.step S h.nq, h.qlo, fun hx => (S.grow q hx).elim h.nq (fun h1 => by have := h.lg.lt; omega)⟩
/-- Append, on a log of the law's. -/
theorem jappend (h : JL w0 w p q X D f g) (bv : Value) (b : List UInt8) (hb : Rv w bv b.length (b.map vB)) (hbl : b.length ≤ 1000000000) (hn : g.n ≤ 1000000000) {r : Int} (ha : D.logApp f g b = (r, E, g')) :
    Calls Try.prog 19 #[.pointer (some ⟨q, 0, none⟩), bv] w fun e w' => e = .returned (.int .i64 r) ∧ ∃ X', JL w0 w' p q X' E f g' ∧ DStep (fun b => X b ∨ b = q) (fun b => X' b ∨ b = q) w w' := by
  refine (lappend f g bv b w h.js.d h.lg h.nq hb hbl hn).mono ?_
  rw [ha]
  rintro e w' ⟨rfl, X', hD, hg, hq, S⟩
  exact ⟨rfl, X', ⟨h.js.lstep h.qlo hD S, hg, h.qlo, hq⟩, S⟩
theorem jopen (h : JS w0 w p X D) (f : Int) {K : List (List UInt8)} (ho : D.logOpen f = (0, E, K)) :
    Calls Try.prog 11 #[.pointer (some ⟨p, 0, none⟩), .int .i64 f] w fun en w' => ∃ q v us X', en = .returned (.tuple #[.pointer (some ⟨q, 0, none⟩), v, .int .i64 0]) ∧ JL w0 w' p q X' E f ⟨K.length, false⟩ ∧ w.heap.size ≤ q ∧ DStep X X' w w' ∧ LsX w' (fun b => X' b ∨ b = q) w.heap.size v us K := by
  refine (open_ok w f h.d ho).mono ?_
  rintro e w' ⟨q, v, us, X', rfl, hD, S, hg, hq, hn, L⟩
  exact ⟨q, v, us, X', rfl, ⟨h.step hD S, hg, Nat.le_trans h.be.size hq, hn⟩, hq, S, L⟩
end
/-- A log of small records on a disk with room for many. -/
structure Fit (D : Dk) (f : Int) (n : Nat) (K : List (List UInt8)) : Prop where
  ok : LogOk D f K
  room : D.room = 5000
  used : D.used ≤ 50 * n
  dur : ∀ j, (D.fs j).2 = (D.fs j).1.length
theorem Fit.new (f : Int) (hf : 0 ≤ f ∧ f < 64) : ∃ E, (newD 5000).logOpen f = (0, E, []) ∧ Fit E f 0 [] := by
  obtain ⟨E, h1, h2, h3, h4, _, h6⟩ := logOpen_all (newD_okk 5000 (by decide) (by decide)) (newD_log 5000 f) hf
  rw [newD_used0] at h4
  exact ⟨E, h1, h2, h3, by omega, h6⟩
theorem Fit.app {D : Dk} {f : Int} {n : Nat} {K : List (List UInt8)} (h : Fit D f n K) (hf : 0 ≤ f ∧ f < 64) {b : List UInt8} (hb : b.length ≤ 10) (hn : n ≤ 90) : ∃ E, D.logApp f ⟨K.length, false⟩ b = (0, E, ⟨K.length + 1, false⟩) ∧ Fit E f (n + 1) (K ++ [b]) ∧ ∀ j, j ≠ f → (E.fs j).1 = (D.fs j).1 := by
  have hl := frameM_lens (K.length : Int) b
  have hu := h.used
  obtain ⟨E, h1, h2, h3, h4, h5, h6⟩ := logApp_ok h.ok hf b (by omega) (by rw [h.room]; omega)
  exact ⟨E, h1, ⟨h2, h3.trans h.room, by omega, h6⟩, h5⟩
end Go.Proofs.Ytfdacckkdjpjhaa
