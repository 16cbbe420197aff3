/- Package disk: Read, Truncate. -/
import Derived.Test.YtpehnggglolnoaaDskD
import Derived.Test.YtpehnggglolnoaaClnB
namespace Go.Proofs.Ytpehnggglolnoaa
open Go.RowKit

def Dk.read (D : Dk) (k : Int) : List UInt8 × Int := if ¬ (0 ≤ k ∧ k < 64) then ([], 1) else if D.off then ([], 19) else ((D.fs k).1, 0)
set_option maxRecDepth 10000 in
set_option maxHeartbeats 1000000 in
theorem dkRead_any (k : Int) (w : World) {p mb : Nat} {F : Int → Option Value} {ks : List Int} {X : Nat → Prop} {D : Dk} (h : DiskAt w p mb F ks X D) :
    Calls Try.prog 46 #[.pointer (some ⟨p, 0, none⟩), .int .i64 k] w fun e w' => ∃ v, e = .returned (.tuple #[v, .int .i64 (D.read k).2]) ∧ Made w w' 5 v ((D.read k).1.map vB) := by
  have c3 := h.c3
  have HH := Lib.hid h
  obtain ⟨a, c, hlook, hown, hblk⟩ := h.old k
  have hlk := h.look2 k hlook w rfl
  have c2 := h.c2
  have hu := h.used
  have hr := h.room
  have hul := fun hk : 0 ≤ k ∧ k < 64 => D.le_used k hk.1 hk.2
  have HUL := Lib.hid hul
  have HRU := Lib.hid (And.intro hu hr)
  obtain ⟨du, hdu⟩ : ∃ d, (D.fs k).2 = d := ⟨_, rfl⟩
  obtain ⟨bs, hbs⟩ : ∃ x, (D.fs k).1 = x := ⟨_, rfl⟩
  rw [hbs] at hown
  rw [hdu, hbs] at hlk
  have HBS := Lib.hid hbs
  have hfd := Try.field0 a bs.length c (du : Int)
  clear h hul hu hr hlook hblk hbs hdu
  go_enter Try.func46, Try.ntmps46
  go_wp2_with fail
  refine (exists_any k _).mono ?_
  rintro e w1 ⟨rfl, rfl⟩
  by_cases hk : 0 ≤ k ∧ k < 64
  · rw [decide_eq_true hk]
    cases ho : D.off
    · rw [ho] at c3
      have hbl : bs.length ≤ 1000000000 := by
        have h1 := HUL.out hk
        rw [HBS.out] at h1
        have h2 := HRU.out
        omega
      go_wp2_with fail
      refine (cloneB_any (.slice a bs.length c) bs w (Rv.of_own hown) hbl).mono ?_
      rintro e w2 ⟨v, rfl, M⟩
      go_wp2_with fail
      go_ret2
      unfold Dk.read
      rw [if_neg (by simpa using hk), ho, if_neg (by simp), HBS.out]
      exact ⟨v, rfl, M⟩
    · rw [ho] at c3
      go_wp2_with fail
      go_ret2
      unfold Dk.read
      rw [if_neg (by simpa using hk), ho, if_pos rfl]
      exact ⟨_, rfl, World.ownsRow_nil _ _ _ _, Below.refl _ _⟩
  · rw [decide_eq_false hk]
    go_wp2_with fail
    go_ret2
    unfold Dk.read
    rw [if_pos hk]
    exact ⟨_, rfl, World.ownsRow_nil _ _ _ _, Below.refl _ _⟩
theorem DStep.ofQ {X Y : Nat → Prop} {w w2 w3 w7 : World} {p mb : Nat} (S : DStep X X w w2) (B : Below w2.heap.size w2 w3) (Q : QStep p mb w3 w7) (hp : X p) (hm : X mb) (hY : ∀ x, Y x → X x) : DStep X Y w w7 :=
  ⟨Q.os.trans (B.os.trans S.os), Q.tape.trans (B.tape.trans S.tape), Q.output.trans (B.output.trans S.output), Nat.le_trans S.size (Nat.le_trans B.size Q.size), fun x hx hX =>
    (Q.block x (Nat.lt_of_lt_of_le hx (Nat.le_trans S.size B.size)) (fun e => hX (by rw [e]; exact hp)) (fun e => hX (by rw [e]; exact hm))).trans ((B.block x (Nat.lt_of_lt_of_le hx S.size)).trans (S.block x hx hX)), fun x hx => .inl (hY x hx)⟩
theorem own_cut {w : World} {base : Nat} {e : TypeId} {a : Option Addr} {n c : Nat} {xs : List Value} (h : w.ownsRow base e 1 (.slice a n c) n xs) (s : Nat) (hs : s ≤ n) : w.ownsRow base e 1 (.slice a s c) s (xs.take s) := by
  obtain ⟨hl, ⟨h0, hx⟩ | ⟨g, cap, cur, he, hb, hg, hn, hc, hz, ht⟩⟩ := h
  · injection h0 with h1 h2 h3
    subst h1 h3
    obtain rfl : s = 0 := by omega
    rw [List.take_zero]
    exact World.ownsRow_nil _ _ _ _
  · injection he with h1 h2 h3
    subst h1 h3
    refine ⟨by rw [List.length_take]; omega, .inr ⟨g, c, cur, rfl, hb, hg, by omega, hc, hz, ?_⟩⟩
    rw [← ht, List.take_take]
    congr 1
    omega
def Dk.trunc (D : Dk) (k : Int) (s : Int) : Int × Dk :=
  if ¬ (0 ≤ k ∧ k < 64) ∨ s < 0 ∨ ((D.fs k).1.length : Int) < s then (1, D) else if D.off then (19, D) else if D.failsB then (19, D.fails) else (0, D.fails.put k ((D.fs k).1.take s.toNat) (min (D.fs k).2 s.toNat))
set_option maxRecDepth 10000 in
set_option maxHeartbeats 1000000 in
theorem trunc_any (k s : Int) (hs64 : s ≤ 9223372036854775807) (w : World) {p mb : Nat} {F : Int → Option Value} {ks : List Int} {X : Nat → Prop} {D : Dk} (h : DiskAt w p mb F ks X D) :
    Calls Try.prog 47 #[.pointer (some ⟨p, 0, none⟩), .int .i64 k, .int .i64 s] w fun e w' => e = .returned (.int .i64 (D.trunc k s).1) ∧
      ∃ F' ks' X', DiskAt w' p mb F' ks' X' (D.trunc k s).2 ∧ DStep X X' w w' := by
  have c3 := h.c3
  have c2 := h.c2
  have HH := Lib.hid h
  obtain ⟨a, c, hlook, hown, hblk⟩ := h.old k
  have hlk := h.look2 k hlook w rfl
  have hfd := Try.field0 a (D.fs k).1.length c ((D.fs k).2 : Int)
  have HLOOK := Lib.hid hlook
  clear hlook
  go_enter Try.func47, Try.ntmps47
  by_cases hk : 0 ≤ k ∧ k < 64
  · by_cases h0 : s < 0
    · have hA : D.trunc k s = (1, D) := by unfold Dk.trunc; rw [if_pos (.inr (.inl h0))]
      have HA := Lib.hid hA
      clear hA
      go_wp2_with fail
      refine (exists_any k _).mono ?_
      rintro e w1 ⟨rfl, rfl⟩
      rw [decide_eq_true hk]
      go_wp2_with fail
      go_ret
      rw [HA.out]
      exact ⟨rfl, F, ks, X, HH.out, DStep.refl _ _⟩
    · by_cases h1 : ((D.fs k).1.length : Int) < s
      · have hA : D.trunc k s = (1, D) := by unfold Dk.trunc; rw [if_pos (.inr (.inr h1))]
        have HA := Lib.hid hA
        clear hA
        go_wp2_with fail
        refine (exists_any k _).mono ?_
        rintro e w1 ⟨rfl, rfl⟩
        rw [decide_eq_true hk]
        go_wp2_with fail
        go_ret
        rw [HA.out]
        exact ⟨rfl, F, ks, X, HH.out, DStep.refl _ _⟩
      · have hn3 : ¬ (¬ (0 ≤ k ∧ k < 64) ∨ s < 0 ∨ ((D.fs k).1.length : Int) < s) := fun h => h.elim (fun h => h hk) (fun h => h.elim h0 h1)
        have HN3 := Lib.hid hn3
        clear hn3
        cases ho : D.off
        · rw [ho] at c3
          go_wp2_with fail
          refine (exists_any k _).mono ?_
          rintro e w1 ⟨rfl, rfl⟩
          rw [decide_eq_true hk]
          go_wp2_with fail
          refine (fails_any w h).mono ?_
          rintro e w2 ⟨rfl, H2, P2⟩
          have hA : D.trunc k s = if D.failsB then (19, D.fails) else (0, D.fails.put k ((D.fs k).1.take s.toNat) (min (D.fs k).2 s.toNat)) := by
            unfold Dk.trunc
            rw [if_neg HN3.out, ho, if_neg (by simp)]
          obtain ⟨fv, hfv⟩ : ∃ v, D.failsB = v := ⟨_, rfl⟩
          rw [hfv] at hA ⊢
          have HA := Lib.hid hA
          clear hA hfv
          cases fv
          · obtain ⟨sn, rfl⟩ : ∃ sn : Nat, s = (sn : Int) := ⟨s.toNat, by omega⟩
            obtain ⟨hfs, hfr⟩ := fails_fs D
            have hlook := HLOOK.out
            have hdur := D.fs k
            clear hdur
            have hdur := h.dur k
            have hown2 := own_same (w' := w2) hown (fun x hx => P2.2.2.2.2 x (hown.lt x hx).2 (fun e => (hblk x hx).2.1 e))
            have hA2 := HA.out
            rw [if_neg (by simp), Int.toNat_natCast] at hA2
            have hroom : ((D.fails.put k ((D.fs k).1.take sn) (min (D.fs k).2 sn)).used : Int) ≤ D.fails.room := by
              have hu := D.fails.used_put k ((D.fs k).1.take sn) (min (D.fs k).2 sn) hk.1 hk.2
              have hu2 : D.fails.used = D.used := by unfold Dk.used; rw [hfs]
              have hu3 := h.used
              rw [hfs, hu2, List.length_take] at hu
              rw [hfr]
              omega
            obtain ⟨du, hdu⟩ : ∃ d, (D.fs k).2 = d := ⟨_, rfl⟩
            obtain ⟨bs, hbs⟩ : ∃ x, (D.fs k).1 = x := ⟨_, rfl⟩
            have hs1 := h1
            rw [hdu, hbs] at hroom hA2 hlook hdur
            rw [hbs] at hown2 hblk hs1
            have htl : (bs.take sn).length = sn := by rw [List.length_take]; omega
            obtain ⟨n, hn⟩ : ∃ n, bs.length = n := ⟨_, rfl⟩
            rw [hn] at hlook hown2 hblk hdur hs1
            have hsn : sn ≤ n := by omega
            have hnc : n ≤ c := by
              obtain ⟨_, _, e, h, _⟩ := (Rv.of_own hown2).opened
              cases e
              exact h
            have hcut := own_cut hown2 sn hsn
            rw [← List.map_take] at hcut
            have hlk2 := H2.look2 k hlook w2 rfl
            have hfd2 := Try.field0 a n c (du : Int)
            have c22 := H2.c2
            have hXp := h.xp
            have HS := Lib.hid (P2.toD h.xp)
            have BA := (Below.refl w2.heap.size w2).alloc (Nat.le_refl _) (.cells #[.slice a sn c, .int .i64 ((min du sn : Nat) : Int)] 105)
            have hput := put_any k a c (min du sn) (bs.take sn) (w2.alloc (.cells #[.slice a sn c, .int .i64 ((min du sn : Nat) : Int)] 105)) ((H2.later BA).weak (fun j => j = k)) hk.1 hk.2 (by rw [htl]; exact hcut.alloc _) (fun x hx => (hblk x (by
              rw [htl] at hx
              cases a with
              | none => cases hx
              | some q => exact hx)).2) (by rw [htl]; omega) hroom
            rw [htl] at hput
            have HPUT := Lib.hid hput
            have HA := Lib.hid hA2
            have HBLK := Lib.hid hblk
            have hsni : (sn : Int) ≤ (n : Int) := by omega
            have hsci : (sn : Int) ≤ (c : Int) := by omega
            clear hput hA2 hblk hroom hfs hfr hn hbs hdu hown hown2 hcut htl hlk hlook H2 P2 h c2 c3 HLOOK h0 h1 hs1 HN3 hfd
            by_cases hm : du ≤ sn
            · have hmi : (du : Int) ≤ (sn : Int) := by omega
              have hmin : min du sn = du := by omega
              rw [hmin] at HPUT BA HA
              go_wp2_with fail
              refine HPUT.out.mono ?_
              rintro e w7 ⟨rfl, ⟨F7, ks7, D7⟩, Q7⟩
              have hstep : DStep X (fun x => X x ∨ (Value.slice a sn c).ownBlock = some x) w w7 := HS.out.ofQ BA Q7 hXp HH.out.xm (fun x hx => hx.elim id (fun hx => (HBLK.out x (by
                cases a with
                | none => cases hx
                | some q => exact hx)).1))
              clear HPUT BA
              go_wp2_with fail
              go_ret
              rw [HA.out]
              exact ⟨rfl, F7, ks7, _, D7, hstep⟩
            · have hmi : ¬ (du : Int) ≤ (sn : Int) := by omega
              have hmj : (sn : Int) < (du : Int) := by omega
              have hmin : min du sn = sn := by omega
              rw [hmin] at HPUT BA HA
              go_wp2_with fail
              refine HPUT.out.mono ?_
              rintro e w7 ⟨rfl, ⟨F7, ks7, D7⟩, Q7⟩
              have hstep : DStep X (fun x => X x ∨ (Value.slice a sn c).ownBlock = some x) w w7 := HS.out.ofQ BA Q7 hXp HH.out.xm (fun x hx => hx.elim id (fun hx => (HBLK.out x (by
                cases a with
                | none => cases hx
                | some q => exact hx)).1))
              clear HPUT BA
              go_wp2_with fail
              go_ret
              rw [HA.out]
              exact ⟨rfl, F7, ks7, _, D7, hstep⟩
          · go_wp2_with fail
            go_ret
            rw [HA.out]
            exact ⟨rfl, F, ks, X, H2, P2.toD h.xp⟩
        · rw [ho] at c3
          have hA : D.trunc k s = (19, D) := by unfold Dk.trunc; rw [if_neg HN3.out, ho, if_pos rfl]
          have HA := Lib.hid hA
          clear hA
          go_wp2_with fail
          refine (exists_any k _).mono ?_
          rintro e w1 ⟨rfl, rfl⟩
          rw [decide_eq_true hk]
          go_wp2_with fail
          go_ret
          rw [HA.out]
          exact ⟨rfl, F, ks, X, HH.out, DStep.refl _ _⟩
  · have hA : D.trunc k s = (1, D) := by unfold Dk.trunc; rw [if_pos (.inl hk)]
    have HA := Lib.hid hA
    clear hA
    go_wp2_with fail
    refine (exists_any k _).mono ?_
    rintro e w1 ⟨rfl, rfl⟩
    rw [decide_eq_false hk]
    go_wp2_with fail
    go_ret
    rw [HA.out]
    exact ⟨rfl, F, ks, X, HH.out, DStep.refl _ _⟩
end Go.Proofs.Ytpehnggglolnoaa
