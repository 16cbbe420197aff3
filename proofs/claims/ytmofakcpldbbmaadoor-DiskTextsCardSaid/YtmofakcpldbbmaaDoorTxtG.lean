/- Package text: Splice. -/
import Derived.Test.YtmofakcpldbbmaaDoorTxtF
import Derived.Deep.RegionHeld3
namespace Go.Proofs.YtmofakcpldbbmaaDoor
open Go.RowKit

/-- The text behind an edit. -/
def spl (l : List Int) (e : Ed) : List Int := l.take e.a.toNat ++ (e.s ++ l.drop (e.a + e.d).toNat)

theorem rv3 {w : World} {v1 v2 v3 : Value} {l1 l2 l3 : List Int} (h1 : Rv w v1 l1.length (l1.map (Value.int .i64))) (h2 : Rv w v2 l2.length (l2.map (Value.int .i64))) (h3 : Rv w v3 l3.length (l3.map (Value.int .i64))) :
    ∀ p ∈ [(v1, l1), (v2, l2), (v3, l3)], Rv w p.1 p.2.length (p.2.map (Value.int .i64)) := by
  intro p hp
  rcases List.mem_cons.1 hp with rfl | hp
  · exact h1
  rcases List.mem_cons.1 hp with rfl | hp
  · exact h2
  · rw [List.mem_singleton.1 hp]; exact h3

/-- A list and an error. -/
def SpPost (w : World) (r : Int) (us : List Int) (en : Ending) (w' : World) : Prop := ∃ v', en = .returned (.tuple #[v', .int .i64 r]) ∧ Made w w' 3 v' (us.map (Value.int .i64))
def splR (l : List Int) (e : Ed) : List Int := if chkE l.length e = 0 then spl l e else []

theorem chkE_ok {n : Nat} {e : Ed} (h : chkE n e = 0) : ∃ A D : Nat, e.a = (A : Int) ∧ e.d = (D : Int) ∧ A + D ≤ n ∧ (e.s.any badE) = false ∧ n + e.s.length ≤ 65536 + D := by
  unfold chkE at h
  split at h
  · cases h
  rename_i h1
  split at h
  · cases h
  rename_i h2
  split at h
  · cases h
  rename_i h3
  exact ⟨e.a.toNat, e.d.toNat, by omega, by omega, by omega, by simpa using h2, by omega⟩

end Go.Proofs.YtmofakcpldbbmaaDoor
