/-
  No cell of these rows narrows 'for every input' (looked for: loops, veiled, ifaces, maps, wideKeys, modest, calm, conditions, laid).
  DERIVED. THE GIVEN ROWS OF THIS SEAT. 7 by the template 'for every input the law returns true; each argument reads behind the call as it read before'; 0 by the template 'total and deterministic' (their statements: YtpehnggglolnoaaTotals.lean).
  GIVEN WITH THE SEED: the statements are not yours to turn. If you find one false, say at which input.
  Laid BY PROGRAM, IN A SANDBOX (cutbox-rows.mjs): the forced cells as the released guide's own fill.sh prints them over the translation 236bf30277873573… (all of the seat's roots in one cut). By AI agents, Wed Nov 11 2026. No macro, syntax, notation, axiom, sorry.
-/
import Derived.Test.YtpehnggglolnoaaChecked
import GoSem.Claim
import GoSem.ClaimJoined
import GoSem.ClaimMapViews
import Derived.JoinedTies
import Derived.KernelRfl
namespace Go.Proofs.Ytpehnggglolnoaa
/- THE CELL 'sum', in the pinned program and in every row, IS THE sha256 OF THE DUMP (.gsa) THAT YtpehnggglolnoaaProg.lean LOADS. Nothing in Lean hashes anything: it is a label: what it is worth is what the hold of that sum in a sandbox is worth. -/
noncomputable def Try.pinned : Pinned := { name := "ytpehnggglolnoaa", sum := "236bf30277873573ebeae792636ea3ee5c553666ed413daf5c19b0f28c5e61c4", checked := Try.checked }
namespace Rows
def none {H : Type} : Left H := { results := [], args := [] }

/-- 'rexmilllaw31.JournalEdits': WHATEVER THE INPUT: true; the input reads as it did. -/
def journalEditsSpec : ChangeSpec := { name := "journalEdits", fn := fun _ => fun
  | [d1, d2, d3, d4] => { results := [.lit (.bool true)], args := [d1, d2, d3, d4] }
  | _ => none }
def journalEditsRow : OpenClaim := { program := "ytpehnggglolnoaa", sum := "236bf30277873573ebeae792636ea3ee5c553666ed413daf5c19b0f28c5e61c4", func := "rexmill/rexmilllaw31.JournalEdits", spec := "journalEdits", unfollowed := true, recurses := true, apart := false }
def JournalEditsSaid : Prop := journalEditsRow.holds Try.pinned (OpenSpec.ofChange journalEditsSpec)

/-- ITS FALSE NEIGHBOUR: 'it returns false'. Refute it at one input. -/
def journalEditsWrong : ChangeSpec := { name := "journalEdits", fn := fun _ => fun
  | [d1, d2, d3, d4] => { results := [.lit (.bool false)], args := [d1, d2, d3, d4] }
  | _ => none }
def JournalEditsWrongFalsely : Prop := journalEditsRow.holds Try.pinned (OpenSpec.ofChange journalEditsWrong)

/-- 'rexmilllaw31.JournalFrames': WHATEVER THE INPUT: true; the input reads as it did. -/
def journalFramesSpec : ChangeSpec := { name := "journalFrames", fn := fun _ => fun
  | [d1, d2, d3, d4] => { results := [.lit (.bool true)], args := [d1, d2, d3, d4] }
  | _ => none }
def journalFramesRow : OpenClaim := { program := "ytpehnggglolnoaa", sum := "236bf30277873573ebeae792636ea3ee5c553666ed413daf5c19b0f28c5e61c4", func := "rexmill/rexmilllaw31.JournalFrames", spec := "journalFrames", unfollowed := true, recurses := true, apart := false }
def JournalFramesSaid : Prop := journalFramesRow.holds Try.pinned (OpenSpec.ofChange journalFramesSpec)

/-- ITS FALSE NEIGHBOUR: 'it returns false'. Refute it at one input. -/
def journalFramesWrong : ChangeSpec := { name := "journalFrames", fn := fun _ => fun
  | [d1, d2, d3, d4] => { results := [.lit (.bool false)], args := [d1, d2, d3, d4] }
  | _ => none }
def JournalFramesWrongFalsely : Prop := journalFramesRow.holds Try.pinned (OpenSpec.ofChange journalFramesWrong)

/-- 'rexmilllaw31.JournalScans': WHATEVER THE INPUT: true; the input reads as it did. -/
def journalScansSpec : ChangeSpec := { name := "journalScans", fn := fun _ => fun
  | [d1, d2, d3, d4] => { results := [.lit (.bool true)], args := [d1, d2, d3, d4] }
  | _ => none }
def journalScansRow : OpenClaim := { program := "ytpehnggglolnoaa", sum := "236bf30277873573ebeae792636ea3ee5c553666ed413daf5c19b0f28c5e61c4", func := "rexmill/rexmilllaw31.JournalScans", spec := "journalScans", unfollowed := true, recurses := true, apart := false }
def JournalScansSaid : Prop := journalScansRow.holds Try.pinned (OpenSpec.ofChange journalScansSpec)

/-- ITS FALSE NEIGHBOUR: 'it returns false'. Refute it at one input. -/
def journalScansWrong : ChangeSpec := { name := "journalScans", fn := fun _ => fun
  | [d1, d2, d3, d4] => { results := [.lit (.bool false)], args := [d1, d2, d3, d4] }
  | _ => none }
def JournalScansWrongFalsely : Prop := journalScansRow.holds Try.pinned (OpenSpec.ofChange journalScansWrong)

/-- 'rexmilllaw31.JournalDetects': WHATEVER THE INPUT: true; the input reads as it did. -/
def journalDetectsSpec : ChangeSpec := { name := "journalDetects", fn := fun _ => fun
  | [d1, d2] => { results := [.lit (.bool true)], args := [d1, d2] }
  | _ => none }
def journalDetectsRow : OpenClaim := { program := "ytpehnggglolnoaa", sum := "236bf30277873573ebeae792636ea3ee5c553666ed413daf5c19b0f28c5e61c4", func := "rexmill/rexmilllaw31.JournalDetects", spec := "journalDetects", unfollowed := true, recurses := true, apart := false }
def JournalDetectsSaid : Prop := journalDetectsRow.holds Try.pinned (OpenSpec.ofChange journalDetectsSpec)

/-- ITS FALSE NEIGHBOUR: 'it returns false'. Refute it at one input. -/
def journalDetectsWrong : ChangeSpec := { name := "journalDetects", fn := fun _ => fun
  | [d1, d2] => { results := [.lit (.bool false)], args := [d1, d2] }
  | _ => none }
def JournalDetectsWrongFalsely : Prop := journalDetectsRow.holds Try.pinned (OpenSpec.ofChange journalDetectsWrong)

/-- 'rexmilllaw31.JournalFull': WHATEVER THE INPUT: true; the input reads as it did. -/
def journalFullSpec : ChangeSpec := { name := "journalFull", fn := fun _ => fun
  | [d1, d2] => { results := [.lit (.bool true)], args := [d1, d2] }
  | _ => none }
def journalFullRow : OpenClaim := { program := "ytpehnggglolnoaa", sum := "236bf30277873573ebeae792636ea3ee5c553666ed413daf5c19b0f28c5e61c4", func := "rexmill/rexmilllaw31.JournalFull", spec := "journalFull", unfollowed := true, recurses := true, apart := false }
def JournalFullSaid : Prop := journalFullRow.holds Try.pinned (OpenSpec.ofChange journalFullSpec)

/-- ITS FALSE NEIGHBOUR: 'it returns false'. Refute it at one input. -/
def journalFullWrong : ChangeSpec := { name := "journalFull", fn := fun _ => fun
  | [d1, d2] => { results := [.lit (.bool false)], args := [d1, d2] }
  | _ => none }
def JournalFullWrongFalsely : Prop := journalFullRow.holds Try.pinned (OpenSpec.ofChange journalFullWrong)

/-- 'rexmilllaw31.JournalApart': WHATEVER THE INPUT: true; the input reads as it did. -/
def journalApartSpec : ChangeSpec := { name := "journalApart", fn := fun _ => fun
  | [d1, d2, d3] => { results := [.lit (.bool true)], args := [d1, d2, d3] }
  | _ => none }
def journalApartRow : OpenClaim := { program := "ytpehnggglolnoaa", sum := "236bf30277873573ebeae792636ea3ee5c553666ed413daf5c19b0f28c5e61c4", func := "rexmill/rexmilllaw31.JournalApart", spec := "journalApart", unfollowed := true, recurses := true, apart := false }
def JournalApartSaid : Prop := journalApartRow.holds Try.pinned (OpenSpec.ofChange journalApartSpec)

/-- ITS FALSE NEIGHBOUR: 'it returns false'. Refute it at one input. -/
def journalApartWrong : ChangeSpec := { name := "journalApart", fn := fun _ => fun
  | [d1, d2, d3] => { results := [.lit (.bool false)], args := [d1, d2, d3] }
  | _ => none }
def JournalApartWrongFalsely : Prop := journalApartRow.holds Try.pinned (OpenSpec.ofChange journalApartWrong)

/-- 'rexmilllaw31.JournalInverted': WHATEVER THE INPUT: true; the input reads as it did. -/
def journalInvertedSpec : ChangeSpec := { name := "journalInverted", fn := fun _ => fun
  | [d1, d2, d3, d4] => { results := [.lit (.bool true)], args := [d1, d2, d3, d4] }
  | _ => none }
def journalInvertedRow : OpenClaim := { program := "ytpehnggglolnoaa", sum := "236bf30277873573ebeae792636ea3ee5c553666ed413daf5c19b0f28c5e61c4", func := "rexmill/rexmilllaw31.JournalInverted", spec := "journalInverted", unfollowed := true, recurses := true, apart := false }
def JournalInvertedSaid : Prop := journalInvertedRow.holds Try.pinned (OpenSpec.ofChange journalInvertedSpec)

/-- ITS FALSE NEIGHBOUR: 'it returns false'. Refute it at one input. -/
def journalInvertedWrong : ChangeSpec := { name := "journalInverted", fn := fun _ => fun
  | [d1, d2, d3, d4] => { results := [.lit (.bool false)], args := [d1, d2, d3, d4] }
  | _ => none }
def JournalInvertedWrongFalsely : Prop := journalInvertedRow.holds Try.pinned (OpenSpec.ofChange journalInvertedWrong)

/- THE SECOND FORM. 'bulk': how many values and letters a reading holds, each counted each time it is reached (what is shared counts as often as it is met; a slice's spare places count too). A statement '..UptoSaid' is the law's where the arguments, and the package variables that the reading takes, are together of bulk at most 1048576: NARROWER than '..Said'. Prove '..Said' where nothing that the law and all that it calls make is longer than what came in: it says more and counts as full. Else prove '..UptoSaid'. A law counts once. -/
mutual
def uptoBulk {H : Type} : DataW H → Nat
  | .lit (.string bytes) => bytes.length + 1
  | .lit _ => 1
  | .nil => 1
  | .ptr d => uptoBulk d + 1
  | .slice elems spare => uptoBulkAll elems + uptoBulkAll spare + 1
  | .agg parts => uptoBulkAll parts + 1
  | .iface _ d => uptoBulk d + 1
  | .map entries => uptoBulkEntries entries + 1
  | .held _ => 1
def uptoBulkAll {H : Type} : List (DataW H) → Nat
  | [] => 0
  | d :: r => uptoBulk d + uptoBulkAll r
def uptoBulkEntries {H : Type} : List (Lit × DataW H) → Nat
  | [] => 0
  | x :: r => uptoBulkEntry x + uptoBulkEntries r
def uptoBulkEntry {H : Type} : Lit × DataW H → Nat
  | (.string bytes, d) => bytes.length + uptoBulk d + 1
  | (_, d) => uptoBulk d + 1
 end
def uptoSmall : (H : Type) → List (DataW H) → Bool := fun _ ds => decide (uptoBulkAll ds ≤ 1048576)
def OpenSpec.upto (s : _root_.Go.ChangeSpec) : _root_.Go.OpenSpec := { _root_.Go.OpenSpec.ofChange s with cond := some uptoSmall }

/-- 'rexmilllaw31.JournalEdits', WHERE WHAT IT READS IS OF BULK AT MOST 1048576: true; the input reads as it did. -/
def journalEditsUptoRow : OpenClaim := { program := "ytpehnggglolnoaa", sum := "236bf30277873573ebeae792636ea3ee5c553666ed413daf5c19b0f28c5e61c4", func := "rexmill/rexmilllaw31.JournalEdits", spec := "journalEdits", unfollowed := true, recurses := true, apart := false, narrowed := true }
def JournalEditsUptoSaid : Prop := journalEditsUptoRow.holds Try.pinned (OpenSpec.upto journalEditsSpec)

/-- 'rexmilllaw31.JournalFrames', WHERE WHAT IT READS IS OF BULK AT MOST 1048576: true; the input reads as it did. -/
def journalFramesUptoRow : OpenClaim := { program := "ytpehnggglolnoaa", sum := "236bf30277873573ebeae792636ea3ee5c553666ed413daf5c19b0f28c5e61c4", func := "rexmill/rexmilllaw31.JournalFrames", spec := "journalFrames", unfollowed := true, recurses := true, apart := false, narrowed := true }
def JournalFramesUptoSaid : Prop := journalFramesUptoRow.holds Try.pinned (OpenSpec.upto journalFramesSpec)

/-- 'rexmilllaw31.JournalScans', WHERE WHAT IT READS IS OF BULK AT MOST 1048576: true; the input reads as it did. -/
def journalScansUptoRow : OpenClaim := { program := "ytpehnggglolnoaa", sum := "236bf30277873573ebeae792636ea3ee5c553666ed413daf5c19b0f28c5e61c4", func := "rexmill/rexmilllaw31.JournalScans", spec := "journalScans", unfollowed := true, recurses := true, apart := false, narrowed := true }
def JournalScansUptoSaid : Prop := journalScansUptoRow.holds Try.pinned (OpenSpec.upto journalScansSpec)

/-- 'rexmilllaw31.JournalDetects', WHERE WHAT IT READS IS OF BULK AT MOST 1048576: true; the input reads as it did. -/
def journalDetectsUptoRow : OpenClaim := { program := "ytpehnggglolnoaa", sum := "236bf30277873573ebeae792636ea3ee5c553666ed413daf5c19b0f28c5e61c4", func := "rexmill/rexmilllaw31.JournalDetects", spec := "journalDetects", unfollowed := true, recurses := true, apart := false, narrowed := true }
def JournalDetectsUptoSaid : Prop := journalDetectsUptoRow.holds Try.pinned (OpenSpec.upto journalDetectsSpec)

/-- 'rexmilllaw31.JournalFull', WHERE WHAT IT READS IS OF BULK AT MOST 1048576: true; the input reads as it did. -/
def journalFullUptoRow : OpenClaim := { program := "ytpehnggglolnoaa", sum := "236bf30277873573ebeae792636ea3ee5c553666ed413daf5c19b0f28c5e61c4", func := "rexmill/rexmilllaw31.JournalFull", spec := "journalFull", unfollowed := true, recurses := true, apart := false, narrowed := true }
def JournalFullUptoSaid : Prop := journalFullUptoRow.holds Try.pinned (OpenSpec.upto journalFullSpec)

/-- 'rexmilllaw31.JournalApart', WHERE WHAT IT READS IS OF BULK AT MOST 1048576: true; the input reads as it did. -/
def journalApartUptoRow : OpenClaim := { program := "ytpehnggglolnoaa", sum := "236bf30277873573ebeae792636ea3ee5c553666ed413daf5c19b0f28c5e61c4", func := "rexmill/rexmilllaw31.JournalApart", spec := "journalApart", unfollowed := true, recurses := true, apart := false, narrowed := true }
def JournalApartUptoSaid : Prop := journalApartUptoRow.holds Try.pinned (OpenSpec.upto journalApartSpec)

/-- 'rexmilllaw31.JournalInverted', WHERE WHAT IT READS IS OF BULK AT MOST 1048576: true; the input reads as it did. -/
def journalInvertedUptoRow : OpenClaim := { program := "ytpehnggglolnoaa", sum := "236bf30277873573ebeae792636ea3ee5c553666ed413daf5c19b0f28c5e61c4", func := "rexmill/rexmilllaw31.JournalInverted", spec := "journalInverted", unfollowed := true, recurses := true, apart := false, narrowed := true }
def JournalInvertedUptoSaid : Prop := journalInvertedUptoRow.holds Try.pinned (OpenSpec.upto journalInvertedSpec)

end Rows
end Go.Proofs.Ytpehnggglolnoaa
