/- Package proto: Feed of a reader that has failed; Feed in general. -/
import Derived.Test.YtadhghikanjkeaaPrtX
namespace Go.Proofs.Ytadhghikanjkeaa
open Go.RowKit

set_option maxRecDepth 20000 in
set_option maxHeartbeats 1000000 in
theorem feedBad_any (q : Nat) (hv : Value) (held : List UInt8) (err : Int) (v : Value) (w : World) (hR : PRd w q hv held err) (he : err ≠ 0) :
    Calls Try.prog 28 #[.pointer (some ⟨q, 0, none⟩), v] w fun e w' => e = .returned (.tuple #[.slice none 0 0, .int .i64 err]) ∧ w' = w.drew := by
  have c1 := hR.c1
  have hne : (err != 0) = true := by simpa using he
  go_enter Try.func28, Try.ntmps28
  go_wp2_with fail
  go_region_held3 (fun W' => W'.cell? ⟨q, 1, none⟩ = some (.int .i64 err)) (exact c1) (fail)
  go_wp2_with fail
  go_ret2
  exact ⟨rfl, rfl⟩

/-- A piece is fed: what is returned, and where the reader stands. -/
theorem feedAll_any (q : Nat) (hv : Value) (held bs : List UInt8) (err : Int) (v : Value) (w : World) (hR : PRd w q hv held err) (hb : Rv w v bs.length (bs.map vB)) (hl : held.length + bs.length ≤ 1000000) :
    Calls Try.prog 28 #[.pointer (some ⟨q, 0, none⟩), v] w fun e w' => ∃ (x : Value) (L : List MV) (hv' : Value), e = .returned (.tuple #[x, .int .i64 (if err ≠ 0 then err else (feedP (held ++ bs)).2.2)]) ∧ L.map MV.m = (if err ≠ 0 then [] else (feedP (held ++ bs)).1) ∧ MsV w.heap.size w' x L ∧
      PRd w' q hv' (if err ≠ 0 then held else (feedP (held ++ bs)).2.1) (if err ≠ 0 then err else (feedP (held ++ bs)).2.2) ∧ WStep w w' q hv hv' ∧ Apart hv' x L := by
  by_cases he : err = 0
  · subst he
    refine (feed_any q hv held bs v w hR hb hl).mono ?_
    rintro e w' ⟨x, L, hv', h1, h2, h3, h4, h5, h6⟩
    exact ⟨x, L, hv', h1, h2, h3, h4, h5, h6⟩
  · refine (feedBad_any q hv held err v w hR he).mono ?_
    rintro e w' ⟨rfl, rfl⟩
    rw [if_pos he, if_pos he, if_pos he]
    exact ⟨_, [], hv, rfl, rfl, ⟨World.ownsRow_nil _ _ _ _, (fun _ h => by cases h), (fun _ h => by cases h)⟩, hR.later (Below.refl _ _).drew, WStep.ofBelow q hv (Below.refl _ _).drew, fun g _ => ⟨(fun h => by cases h), (fun _ h => by cases h)⟩⟩
/-- What is fed in pieces, as a recursion of the walk. -/
theorem fedL_step (h : List UInt8) (e : Int) (x : List UInt8) (xs : List (List UInt8)) : fedL h e (x :: xs) =
    ((if e ≠ 0 then [] else (feedP (h ++ x)).1) ++ (fedL (if e ≠ 0 then h else (feedP (h ++ x)).2.1) (if e ≠ 0 then e else (feedP (h ++ x)).2.2) xs).1, (fedL (if e ≠ 0 then h else (feedP (h ++ x)).2.1) (if e ≠ 0 then e else (feedP (h ++ x)).2.2) xs).2) := by
  rw [fedL]
  by_cases he : e = 0
  · subst he; rfl
  · simp [he]
end Go.Proofs.Ytadhghikanjkeaa
