/-
  DERIVED. GIVEN WITH THE SEED: THE CARDS: each row of YtmofakcpldbbmaaDoorRows.lean that lists a variable, with what it lists TIED to the program's text (the seventh form; the later family's looks); each row that meets fmt, with fmt's text TOLD by the authors' own Lean function (tested against real Go, not proved from fmt's source: count such statements apart). THE CARD IS WHAT COUNTS. Prove the row's statement (the work); the ties are given (YtmofakcpldbbmaaDoorTie.lean); close each card by the builder's one call (the guide's Derived/Test/ToyasCard.lean, 'card_holds'). Laid BY PROGRAM, IN A SANDBOX (cutbox-door.mjs). By AI agents, Wed Nov 11 2026. No macro, syntax, notation, axiom, sorry.
-/
import Derived.Test.YtmofakcpldbbmaaDoorRows
import GoSem.ClaimSeven
namespace Go.Proofs.YtmofakcpldbbmaaDoor
namespace Rows

/-- THE TIED CARD OF 'rexmilllaw30.DiskTexts'. -/
def diskTextsCard : Claim7 := { stood := { row := diskTextsRow, standIns := [], harness := (true, "aaeeb5bcc4397b4af5d8300ba7ccc2963c9d51404496b59cda469f66f559ea66"), looks := false }, kinds := [], alts := [], laidByText := true, laidKinds := [.data], laidTests := true, laidLooks := .later }
def DiskTextsCardSaid : Prop := Claim7.holds Tryd.pinned (.plain (OpenSpec.ofChange diskTextsSpec)) diskTextsCard

/-- THE SECOND FORM's CARD OF 'rexmilllaw30.DiskTexts'. -/
def diskTextsUptoCard : Claim7 := { stood := { row := diskTextsUptoRow, standIns := [], harness := (true, "aaeeb5bcc4397b4af5d8300ba7ccc2963c9d51404496b59cda469f66f559ea66"), looks := false }, kinds := [], alts := [], laidByText := true, laidKinds := [.data], laidTests := true, laidLooks := .later }
def DiskTextsUptoCardSaid : Prop := Claim7.holds Tryd.pinned (.plain (OpenSpec.upto diskTextsSpec)) diskTextsUptoCard
end Rows
end Go.Proofs.YtmofakcpldbbmaaDoor
