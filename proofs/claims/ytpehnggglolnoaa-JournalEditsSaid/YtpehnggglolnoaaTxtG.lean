/- Package text: Splice. -/
import Derived.Test.YtpehnggglolnoaaTxtF
import Derived.Deep.RegionHeld3
namespace Go.Proofs.Ytpehnggglolnoaa
open Go.RowKit

/-- The text behind an edit. -/
def spl (l : List Int) (e : Ed) : List Int := l.take e.a.toNat ++ (e.s ++ l.drop (e.a + e.d).toNat)

theorem Box3.alloc {w : World} {b : Nat} {c0 c1 c2 : Value} (h : Box3 w b c0 c1 c2) (o : Obj) : Box3 (w.alloc o) b c0 c1 c2 := h.kept (Below.heap_alloc _ _ _ h.lt)
theorem rv3 {w : World} {v1 v2 v3 : Value} {l1 l2 l3 : List Int} (h1 : Rv w v1 l1.length (l1.map (Value.int .i64))) (h2 : Rv w v2 l2.length (l2.map (Value.int .i64))) (h3 : Rv w v3 l3.length (l3.map (Value.int .i64))) :
    ∀ p ∈ [(v1, l1), (v2, l2), (v3, l3)], Rv w p.1 p.2.length (p.2.map (Value.int .i64)) := by
  intro p hp
  rcases List.mem_cons.1 hp with rfl | hp
  · exact h1
  rcases List.mem_cons.1 hp with rfl | hp
  · exact h2
  · rw [List.mem_singleton.1 hp]; exact h3

/-- A list and an error. -/
def SpPost (w : World) (r : Int) (us : List Int) (en : Ending) (w' : World) : Prop := ∃ v', en = .returned (.tuple #[v', .int .i64 r]) ∧ Made w w' 3 v' (us.map (Value.int .i64))
def splR (l : List Int) (e : Ed) : List Int := if chkE l.length e = 0 then spl l e else []

theorem chkE_ok {n : Nat} {e : Ed} (h : chkE n e = 0) : ∃ A D : Nat, e.a = (A : Int) ∧ e.d = (D : Int) ∧ A + D ≤ n ∧ (e.s.any badE) = false ∧ n + e.s.length ≤ 65536 + D := by
  unfold chkE at h
  split at h
  · cases h
  rename_i h1
  split at h
  · cases h
  rename_i h2
  split at h
  · cases h
  rename_i h3
  exact ⟨e.a.toNat, e.d.toNat, by omega, by omega, by omega, by simpa using h2, by omega⟩

set_option maxRecDepth 20000 in
set_option maxHeartbeats 4000000 in
theorem splice_any (v : Value) (l : List Int) (e : Ed) (iv : Value) (w : World) (hv : Rv w v l.length (l.map (Value.int .i64))) (hi : Rv w iv e.s.length (e.s.map (Value.int .i64))) (hl : l.length ≤ 1000000) (hs : e.s.length ≤ 1000000)
    (ha : -9223372036854775808 ≤ e.a ∧ e.a ≤ 9223372036854775807) (hd : -9223372036854775808 ≤ e.d ∧ e.d ≤ 9223372036854775807) :
    Calls Try.prog 21 #[v, e.val iv] w (SpPost w (chkE l.length e) (splR l e)) := by
  have hus : splR l e = if chkE l.length e = 0 then spl l e else [] := rfl
  have hck := fun w' (h1 : Rv w' v l.length (l.map (Value.int .i64))) (h2 : Rv w' iv e.s.length (e.s.map (Value.int .i64))) => check_any v l e iv w' h1 h2 (by omega) (by omega) ha hd
  have hok := @chkE_ok l.length e
  have HCK := Lib.hid hck
  clear hck
  obtain ⟨ao, cap, rfl, hcap, _⟩ := hv.opened
  obtain ⟨ai, ci, rfl, hci, _⟩ := hi.opened
  have B0 : Below w.heap.size w (w.alloc (.cells #[.int .i64 e.a, .int .i64 e.d, .slice ai e.s.length ci] 45)) := (Below.refl _ w).alloc (Nat.le_refl _) _
  have C0 := Box3.new w (.int .i64 e.a) (.int .i64 e.d) (.slice ai e.s.length ci)
  have hv0 := hv.below B0
  have hi0 := hi.below B0
  have k0 := C0.k0
  have k1 := C0.k1
  have k2 := C0.k2
  generalize hr : chkE l.length e = r at *
  generalize splR l e = us at *
  have HUS := Lib.hid hus
  clear hus
  by_cases h0 : r = 0
  · subst h0
    obtain ⟨A, D, hA, hD, hAD, _, _⟩ := hok rfl
    have hus0 : us = joinP [(.slice ao A cap, l.take A), (.slice ai e.s.length ci, e.s), (.slice (if cap = A + D then ao else ao.map (·.add (A + D))) (l.length - (A + D)) (cap - (A + D)), l.drop (A + D))] := by
      rw [HUS.out, if_pos rfl, spl, hA, hD]
      simp only [joinP, List.flatMap_cons, List.flatMap_nil, List.append_nil]
      rfl
    have r1 : Rv w (.slice ao A cap) (l.take A).length ((l.take A).map (Value.int .i64)) := by
      obtain ⟨a', c', h1, _, h2⟩ := hv.firsts A (by omega)
      cases h1
      have := h2 A rfl
      rw [List.length_take, Nat.min_eq_left (by omega), List.map_take]
      exact this
    have r3 : Rv w (.slice (if cap = A + D then ao else ao.map (·.add (A + D))) (l.length - (A + D)) (cap - (A + D))) (l.drop (A + D)).length ((l.drop (A + D)).map (Value.int .i64)) := by
      obtain ⟨a', c', h1, _, h3⟩ := hv.sliced 1 (A + D) l.length hAD (Nat.le_refl _)
      cases h1
      rw [List.length_drop, List.map_drop]
      simp only [Nat.mul_one] at h3
      rw [show (List.drop (A + D) (l.map (Value.int .i64))).take (l.length - (A + D)) = List.drop (A + D) (l.map (Value.int .i64)) from List.take_of_length_le (by simp)] at h3
      exact h3
    generalize hp3 : (if cap = A + D then ao else ao.map (·.add (A + D))) = a3 at *
    have hjl : (joinP [(.slice ao A cap, l.take A), (.slice ai e.s.length ci, e.s), (.slice a3 (l.length - (A + D)) (cap - (A + D)), l.drop (A + D))]).length ≤ 1000000000 := by
      simp only [joinP, List.flatMap_cons, List.flatMap_nil, List.append_nil, List.length_append, List.length_take, List.length_drop]
      omega
    have HJL := Lib.hid hjl
    have HU0 := Lib.hid hus0
    obtain ⟨ea, ed, es⟩ := e
    simp only at hA hD hs hi hi0 ha hd k0 k1 k2 B0 C0 hv0 HCK HJL HU0
    subst hA hD
    clear hok HUS hjl hus0 hr
    have hn1 : (0 : Int) ≤ (A : Int) := by omega
    have hn2 : (A : Int) ≤ (l.length : Int) := by omega
    have hn3 : (A : Int) ≤ (cap : Int) := by omega
    have hn4 : (0 : Int) ≤ (A : Int) + (D : Int) := by omega
    have hn6 : (A : Int) ≤ (A : Int) + (D : Int) := by omega
    have hn5 : (A : Int) + (D : Int) ≤ (l.length : Int) := by omega
    have htn : ((A : Int) + (D : Int)).toNat = A + D := by omega
    have hwr : IntKind.i64.wrap ((A : Int) + (D : Int)) = (A : Int) + (D : Int) := by rw [IntKind.wrap_i64]; omega
    unfold Ed.val
    go_enter Try.func21, Try.ntmps21
    go_wp2_with fail
    refine (HCK.out _ hv0 hi0).mono ?_
    rintro en w1 ⟨rfl, B1⟩
    have C1 := C0.kept (B1.block _ C0.lt)
    have e0 := C1.k0
    have e1 := C1.k1
    have e2 := C1.k2
    clear k0 k1 k2 C0 hv0 hi0 HCK
    have hsz := B1.size
    have B01 := bel B0 B1
    by_cases hcd : cap = A + D
    · subst hcd
      rw [if_pos rfl] at hp3
      subst hp3
      have ez1 : l.length - (A + D) = 0 := by omega
      have ez2 : A + D - (A + D) = 0 := by omega
      rw [ez1, ez2] at HJL HU0 r3
      clear ez1 ez2
      go_wp2_with fail
      go_region_held3 (fun W' => W'.cell? ⟨w.heap.size, 0, none⟩ = some (.int .i64 (A : Int)) ∧ W'.cell? ⟨w.heap.size, 1, none⟩ = some (.int .i64 (D : Int)) ∧ W'.cell? ⟨w.heap.size, 2, none⟩ = some (.slice ai es.length ci))
        (first | exact ⟨C9.k0, C9.k1, C9.k2⟩ | exact ⟨(C1.alloc _).k0, (C1.alloc _).k1, (C1.alloc _).k2⟩ | exact ⟨C1.k0, C1.k1, C1.k2⟩)
        ((go_at_call 64; refine (concat_any (.slice (some ⟨w1.heap.size, 0, none⟩) 3 3) _ _ ((rv_litH w1 [_, _, _] _ 3 (by unfold maxLen; omega) _ rfl).drew) (rv3 (r1.below ((B01.alloc B01.size _).drew)) (hi.below ((B01.alloc B01.size _).drew)) (r3.below ((B01.alloc B01.size _).drew))) HJL.out (by show 3 ≤ 1000; decide)).mono ?_; rintro e w9 ⟨v9, rfl, M9⟩; have C9 := (C1.alloc _).kept (M9.2.block _ (by have := C1.lt; simp; omega))))
      go_wp2_with fail
      go_ret2
      exact ⟨_, rfl, by rw [HU0.out]; exact ⟨own_base M9.1 ((B01.alloc B01.size _).drew).size, bel ((B01.alloc B01.size _).drew) M9.2⟩⟩
    · rw [if_neg hcd] at hp3
      subst hp3
      go_wp2_with fail
      go_region_held3 (fun W' => W'.cell? ⟨w.heap.size, 0, none⟩ = some (.int .i64 (A : Int)) ∧ W'.cell? ⟨w.heap.size, 1, none⟩ = some (.int .i64 (D : Int)) ∧ W'.cell? ⟨w.heap.size, 2, none⟩ = some (.slice ai es.length ci))
        (first | exact ⟨C9.k0, C9.k1, C9.k2⟩ | exact ⟨(C1.alloc _).k0, (C1.alloc _).k1, (C1.alloc _).k2⟩ | exact ⟨C1.k0, C1.k1, C1.k2⟩)
        ((go_at_call 64; refine (concat_any (.slice (some ⟨w1.heap.size, 0, none⟩) 3 3) _ _ ((rv_litH w1 [_, _, _] _ 3 (by unfold maxLen; omega) _ rfl).drew) (rv3 (r1.below ((B01.alloc B01.size _).drew)) (hi.below ((B01.alloc B01.size _).drew)) (r3.below ((B01.alloc B01.size _).drew))) HJL.out (by show 3 ≤ 1000; decide)).mono ?_; rintro e w9 ⟨v9, rfl, M9⟩; have C9 := (C1.alloc _).kept (M9.2.block _ (by have := C1.lt; simp; omega))))
      go_wp2_with fail
      go_ret2
      exact ⟨_, rfl, by rw [HU0.out]; exact ⟨own_base M9.1 ((B01.alloc B01.size _).drew).size, bel ((B01.alloc B01.size _).drew) M9.2⟩⟩
  · have hne : (r != 0) = true := by simpa using h0
    have hne2 : (r == 0) = false := by simpa using h0
    have hus0 : us = [] := by rw [HUS.out, if_neg h0]
    subst hus0
    clear hok h0 HUS hr
    unfold Ed.val
    go_enter Try.func21, Try.ntmps21
    go_wp2_with fail
    refine (HCK.out _ hv0 hi0).mono ?_
    rintro en w1 ⟨rfl, B1⟩
    go_wp2_with fail
    go_ret2
    exact ⟨_, rfl, World.ownsRow_nil _ _ _ _, bel B0 B1⟩
end Go.Proofs.Ytpehnggglolnoaa
