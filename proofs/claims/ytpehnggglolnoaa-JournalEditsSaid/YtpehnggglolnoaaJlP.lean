/- Package journal: a log on a disk, plainly. -/
import Derived.Test.YtpehnggglolnoaaDkP
import Derived.Test.YtpehnggglolnoaaJrnE
namespace Go.Proofs.Ytpehnggglolnoaa
open Go.RowKit

/-- A log: how many records it has, whether it has seen the power fail. -/
structure Lg where
  n : Nat
  down : Bool
/-- (*Log).Append on a log in file f. -/
def Dk.logApp (D : Dk) (f : Int) (g : Lg) (b : List UInt8) : Int × Dk × Lg :=
  if 65536 < b.length then (4, D, g) else
  if g.down = true then (19, D, g) else
  if (D.append f (frameM (g.n : Int) b)).1 ≠ 0 then ((D.append f (frameM (g.n : Int) b)).1, (D.append f (frameM (g.n : Int) b)).2, ⟨g.n, decide ((D.append f (frameM (g.n : Int) b)).1 = 19)⟩) else
  if (D.append f (frameM (g.n : Int) b)).2.sync.1 ≠ 0 then ((D.append f (frameM (g.n : Int) b)).2.sync.1, (D.append f (frameM (g.n : Int) b)).2.sync.2, ⟨g.n, decide ((D.append f (frameM (g.n : Int) b)).2.sync.1 = 19)⟩) else
  (0, (D.append f (frameM (g.n : Int) b)).2.sync.2, ⟨g.n + 1, false⟩)
/-- Open's Truncate. -/
def Dk.openT (D : Dk) (f : Int) : Int × Dk := if (scanL (D.fs f).1).2 < (D.fs f).1.length then D.trunc f ((scanL (D.fs f).1).2 : Int) else (0, D)
/-- Open. -/
def Dk.logOpen (D : Dk) (f : Int) : Int × Dk × List (List UInt8) :=
  if (D.read f).2 ≠ 0 then ((D.read f).2, D, []) else
  if (D.openT f).1 ≠ 0 then ((D.openT f).1, (D.openT f).2, []) else
  if (D.openT f).2.sync.1 ≠ 0 then ((D.openT f).2.sync.1, (D.openT f).2.sync.2, []) else
  (0, (D.openT f).2.sync.2, (scanL (D.fs f).1).1)

theorem un_fails {D : Dk} (h : D.armed = false) : D.fails = D := by unfold Dk.fails; rw [h]; rfl
theorem un_failsB {D : Dk} (h : D.armed = false) : D.failsB = false := by unfold Dk.failsB; rw [h]; rfl
theorem un_sync {D : Dk} (ho : D.off = false) (h : D.armed = false) : D.sync = (0, D.harden) := by
  unfold Dk.sync
  rw [ho, un_failsB h, un_fails h]
  rfl
theorem harden_used (D : Dk) : D.harden.used = D.used := rfl
theorem harden_okJ {D : Dk} (h : DOk D) : DOk D.harden := ⟨fun k hk => by show ((D.fs k).1, (D.fs k).1.length) = _; rw [h.out k hk]; rfl, fun k => Nat.le_refl _, h.room, h.used, h.left⟩
theorem read_at {D : Dk} {f : Int} (hf : 0 ≤ f ∧ f < 64) (ho : D.off = false) : D.read f = ((D.fs f).1, 0) := by unfold Dk.read; rw [if_neg (fun h => h hf), ho]; rfl
theorem scanL_frames (K : List (List UInt8)) (t : List UInt8) (hk : K.length ≤ 1000000000) (hl : (framesM 0 K ++ t).length ≤ 1000000000) :
    scanL (framesM 0 K ++ t) = (K ++ (scanJ t.length K.length t).1, (framesM 0 K).length + (scanJ t.length K.length t).2) := by
  have := scanJ_frames K 0 t (framesM 0 K ++ t).length (Nat.le_refl _) (by omega) (by omega)
  rwa [Nat.zero_add] at this
theorem scanL_all (K : List (List UInt8)) (hk : K.length ≤ 1000000000) (hl : (framesM 0 K).length ≤ 1000000000) : scanL (framesM 0 K) = (K, (framesM 0 K).length) := by
  have := scanL_frames K [] hk (by rw [List.append_nil]; exact hl)
  rw [List.append_nil] at this
  rw [this]
  simp [scanJ]

/-- The file f of a disk that is on holds the frames of K. -/
structure LogOk (D : Dk) (f : Int) (K : List (List UInt8)) : Prop where
  on : D.off = false
  un : D.armed = false
  fs : (D.fs f).1 = framesM 0 K
theorem DOk.flen {D : Dk} (h : DOk D) (f : Int) : (D.fs f).1.length ≤ 16777216 := by
  by_cases hk : 0 ≤ f ∧ f < 64
  · have := D.le_used f hk.1 hk.2
    have h1 := h.used
    have h2 := h.room
    omega
  · rw [h.out f hk]; exact Nat.zero_le _
theorem frames_count (K : List (List UInt8)) : ∀ k, K.length ≤ (framesM k K).length := by
  induction K with
  | nil => intro k; simp
  | cons x K ih =>
    intro k
    have h1 := frameM_pos (k : Int) x
    have h2 := ih (k + 1)
    rw [framesM, List.length_append, List.length_cons]
    omega
/-- An Append that fits. -/
theorem logApp_ok {D : Dk} {f : Int} {K : List (List UInt8)} (h : LogOk D f K) (hf : 0 ≤ f ∧ f < 64) (b : List UInt8) (hb : b.length ≤ 65536) (hr : (D.used : Int) + (frameM (K.length : Int) b).length ≤ D.room) :
    ∃ E, D.logApp f ⟨K.length, false⟩ b = (0, E, ⟨K.length + 1, false⟩) ∧ LogOk E f (K ++ [b]) ∧ E.room = D.room ∧ E.used = D.used + (frameM (K.length : Int) b).length ∧ (∀ j, j ≠ f → (E.fs j).1 = (D.fs j).1) ∧ ∀ j, (E.fs j).2 = (E.fs j).1.length := by
  have ha := app_fits f (frameM (K.length : Int) b) hf h.on h.un hr
  have hu := D.used_put f ((D.fs f).1 ++ frameM (K.length : Int) b) (D.fs f).2 hf.1 hf.2
  rw [List.length_append] at hu
  have hs : (D.put f ((D.fs f).1 ++ frameM (K.length : Int) b) (D.fs f).2).sync = (0, (D.put f ((D.fs f).1 ++ frameM (K.length : Int) b) (D.fs f).2).harden) := un_sync h.on h.un
  refine ⟨(D.put f ((D.fs f).1 ++ frameM (K.length : Int) b) (D.fs f).2).harden, ?_, ⟨h.on, h.un, ?_⟩, rfl, ?_, fun j hj => ?_, fun j => rfl⟩
  · unfold Dk.logApp
    rw [if_neg (by omega), if_neg (by simp)]
    simp only [ha, hs, ne_eq, not_true, if_false]
  · show ((D.put f _ _).fs f).1 = _
    rw [put_fs0, h.fs, framesM_snoc, Nat.zero_add]
  · rw [harden_used]; omega
  · show ((D.put f _ _).fs j).1 = _
    rw [put_fs1 _ _ _ hj]
/-- One that does not. -/
theorem logApp_full {D : Dk} {f : Int} {K : List (List UInt8)} (h : LogOk D f K) (hf : 0 ≤ f ∧ f < 64) (b : List UInt8) (hb : b.length ≤ 65536) (hr : D.room < (D.used : Int) + (frameM (K.length : Int) b).length) :
    D.logApp f ⟨K.length, false⟩ b = (18, D, ⟨K.length, false⟩) := by
  have ha : D.append f (frameM (K.length : Int) b) = (18, D) := by
    unfold Dk.append
    rw [if_neg (fun h => h hf), h.on, if_neg (by simp), if_pos (by omega)]
  unfold Dk.logApp
  rw [if_neg (by omega), if_neg (by simp)]
  simp only [ha]
  rfl
/-- Open of a disk that is on. -/
theorem logOpen_on {D : Dk} {f : Int} (hf : 0 ≤ f ∧ f < 64) (ho : D.off = false) (ha : D.armed = false) :
    ∃ E, D.logOpen f = (0, E, (scanL (D.fs f).1).1) ∧ LogOk E f (scanL (D.fs f).1).1 ∧ E.room = D.room ∧ E.used ≤ D.used ∧ (∀ j, j ≠ f → (E.fs j).1 = (D.fs j).1) ∧ ∀ j, (E.fs j).2 = (E.fs j).1.length := by
  have hr := read_at hf ho
  have hl := scanJ_len (D.fs f).1.length 0 (D.fs f).1
  have hp := scanJ_pre (D.fs f).1.length 0 (D.fs f).1
  change (scanL (D.fs f).1).2 ≤ _ ∧ _ at hl
  change framesM 0 (scanL (D.fs f).1).1 = (D.fs f).1.take (scanL (D.fs f).1).2 at hp
  obtain ⟨q, hq⟩ : ∃ q, scanL (D.fs f).1 = q := ⟨_, rfl⟩
  have hT : ∃ E, D.openT f = (0, E) ∧ LogOk E f q.1 ∧ E.room = D.room ∧ E.used ≤ D.used ∧ ∀ j, j ≠ f → (E.fs j).1 = (D.fs j).1 := by
    unfold Dk.openT
    rw [hq] at hl hp ⊢
    by_cases hlt : q.2 < (D.fs f).1.length
    · have ht : D.trunc f (q.2 : Int) = (0, D.put f ((D.fs f).1.take q.2) (min (D.fs f).2 q.2)) := by
        unfold Dk.trunc
        rw [if_neg (by omega), ho, if_neg (by simp), un_failsB ha, if_neg (by simp), un_fails ha, Int.toNat_natCast]
      rw [if_pos hlt, ht]
      have hu := D.used_put f ((D.fs f).1.take q.2) (min (D.fs f).2 q.2) hf.1 hf.2
      rw [List.length_take] at hu
      refine ⟨_, rfl, ⟨ho, ha, ?_⟩, rfl, by omega, fun j hj => by rw [put_fs1 _ _ _ hj]⟩
      rw [put_fs0]
      exact hp.symm
    · rw [if_neg hlt]
      refine ⟨D, rfl, ⟨ho, ha, ?_⟩, rfl, Nat.le_refl _, fun j _ => rfl⟩
      rw [hp, List.take_of_length_le (by omega)]
  obtain ⟨E, h1, h2, h3, h4, h5⟩ := hT
  have hs : E.sync = (0, E.harden) := un_sync h2.on h2.un
  refine ⟨E.harden, ?_, ⟨?_, ?_, ?_⟩, h3, h4, h5, fun j => rfl⟩
  · unfold Dk.logOpen
    simp only [hr, h1, hs, ne_eq, not_true, if_false]
  · exact h2.on
  · exact h2.un
  · rw [hq]; exact h2.fs
theorem logOpen_all {D : Dk} {f : Int} {K : List (List UInt8)} (hD : DOk D) (h : LogOk D f K) (hf : 0 ≤ f ∧ f < 64) :
    ∃ E, D.logOpen f = (0, E, K) ∧ LogOk E f K ∧ E.room = D.room ∧ E.used ≤ D.used ∧ (∀ j, j ≠ f → (E.fs j).1 = (D.fs j).1) ∧ ∀ j, (E.fs j).2 = (E.fs j).1.length := by
  have hn := hD.flen f
  have hc := frames_count K 0
  rw [h.fs] at hn
  have := logOpen_on hf h.on h.un
  rw [h.fs, scanL_all K (by omega) (by omega)] at this
  exact this
/-- A log that is down, a record that is too long. -/
theorem logApp_down (D : Dk) (f : Int) (n : Nat) (b : List UInt8) (hb : b.length ≤ 65536) : D.logApp f ⟨n, true⟩ b = (19, D, ⟨n, true⟩) := by
  unfold Dk.logApp
  rw [if_neg (by omega), if_pos rfl]
theorem logApp_long (D : Dk) (f : Int) (g : Lg) (b : List UInt8) (hb : 65536 < b.length) : D.logApp f g b = (4, D, g) := by
  unfold Dk.logApp
  rw [if_pos hb]
end Go.Proofs.Ytpehnggglolnoaa
