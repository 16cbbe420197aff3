/-
  DERIVED. GIVEN WITH THE SEED: THE CARDS: each row of YtcknnlbfbjcjjaaDoorRows.lean that lists a variable, with what it lists TIED to the program's text (the seventh form; the later family's looks); each row that meets fmt, with fmt's text TOLD by the authors' own Lean function (tested against real Go, not proved from fmt's source: count such statements apart). THE CARD IS WHAT COUNTS. Prove the row's statement (the work); the ties are given (YtcknnlbfbjcjjaaDoorTie.lean); close each card by the builder's one call (the guide's Derived/Test/ToyasCard.lean, 'card_holds'). Laid BY PROGRAM, IN A SANDBOX (cutbox-door.mjs). By AI agents, Wed Nov 11 2026. No macro, syntax, notation, axiom, sorry.
-/
import Derived.Test.YtcknnlbfbjcjjaaDoorRows
import GoSem.ClaimSeven
namespace Go.Proofs.YtcknnlbfbjcjjaaDoor
namespace Rows

/-- THE TIED CARD OF 'rexmilllaw04.TextDecodes'. -/
def textDecodesCard : Claim7 := { stood := { row := textDecodesRow, standIns := [], harness := (true, "2017dd8fa06c9512c2d2d244826b7683801be8198b6a273428943a34565a1e25"), looks := false }, kinds := [], alts := [], laidByText := true, laidKinds := [.data], laidTests := true, laidLooks := .later }
def TextDecodesCardSaid : Prop := Claim7.holds Tryd.pinned (.plain (OpenSpec.ofChange textDecodesSpec)) textDecodesCard

/-- THE TIED CARD OF 'rexmilllaw04.TextSplices'. -/
def textSplicesCard : Claim7 := { stood := { row := textSplicesRow, standIns := [], harness := (true, "2017dd8fa06c9512c2d2d244826b7683801be8198b6a273428943a34565a1e25"), looks := false }, kinds := [], alts := [], laidByText := true, laidKinds := [.data], laidTests := true, laidLooks := .later }
def TextSplicesCardSaid : Prop := Claim7.holds Tryd.pinned (.plain (OpenSpec.ofChange textSplicesSpec)) textSplicesCard

/-- THE TIED CARD OF 'rexmilllaw04.TextAsserts'. -/
def textAssertsCard : Claim7 := { stood := { row := textAssertsRow, standIns := [], harness := (true, "2017dd8fa06c9512c2d2d244826b7683801be8198b6a273428943a34565a1e25"), looks := false }, kinds := [], alts := [], laidByText := true, laidKinds := [.data], laidTests := true, laidLooks := .later }
def TextAssertsCardSaid : Prop := Claim7.holds Tryd.pinned (.plain (OpenSpec.ofChange textAssertsSpec)) textAssertsCard

/-- THE TIED CARD OF 'rexmilllaw04.TextLines'. -/
def textLinesCard : Claim7 := { stood := { row := textLinesRow, standIns := [], harness := (true, "2017dd8fa06c9512c2d2d244826b7683801be8198b6a273428943a34565a1e25"), looks := false }, kinds := [], alts := [], laidByText := true, laidKinds := [.data], laidTests := true, laidLooks := .later }
def TextLinesCardSaid : Prop := Claim7.holds Tryd.pinned (.plain (OpenSpec.ofChange textLinesSpec)) textLinesCard

/-- THE TIED CARD OF 'rexmilllaw04.TextEncodes'. -/
def textEncodesCard : Claim7 := { stood := { row := textEncodesRow, standIns := [], harness := (true, "2017dd8fa06c9512c2d2d244826b7683801be8198b6a273428943a34565a1e25"), looks := false }, kinds := [], alts := [], laidByText := true, laidKinds := [.data], laidTests := true, laidLooks := .later }
def TextEncodesCardSaid : Prop := Claim7.holds Tryd.pinned (.plain (OpenSpec.ofChange textEncodesSpec)) textEncodesCard

/-- THE TIED CARD OF 'rexmilllaw04.TextLimits'. -/
def textLimitsCard : Claim7 := { stood := { row := textLimitsRow, standIns := [], harness := (true, "2017dd8fa06c9512c2d2d244826b7683801be8198b6a273428943a34565a1e25"), looks := false }, kinds := [], alts := [], laidByText := true, laidKinds := [.data], laidTests := true, laidLooks := .later }
def TextLimitsCardSaid : Prop := Claim7.holds Tryd.pinned (.plain (OpenSpec.ofChange textLimitsSpec)) textLimitsCard

/-- THE TIED CARD OF 'rexmilllaw04.TextRound'. -/
def textRoundCard : Claim7 := { stood := { row := textRoundRow, standIns := [], harness := (true, "2017dd8fa06c9512c2d2d244826b7683801be8198b6a273428943a34565a1e25"), looks := false }, kinds := [], alts := [], laidByText := true, laidKinds := [.data], laidTests := true, laidLooks := .later }
def TextRoundCardSaid : Prop := Claim7.holds Tryd.pinned (.plain (OpenSpec.ofChange textRoundSpec)) textRoundCard

/-- THE TIED CARD OF 'rexmilllaw04.TextSent'. -/
def textSentCard : Claim7 := { stood := { row := textSentRow, standIns := [], harness := (true, "2017dd8fa06c9512c2d2d244826b7683801be8198b6a273428943a34565a1e25"), looks := false }, kinds := [], alts := [], laidByText := true, laidKinds := [.data], laidTests := true, laidLooks := .later }
def TextSentCardSaid : Prop := Claim7.holds Tryd.pinned (.plain (OpenSpec.ofChange textSentSpec)) textSentCard

/-- THE SECOND FORM's CARD OF 'rexmilllaw04.TextDecodes'. -/
def textDecodesUptoCard : Claim7 := { stood := { row := textDecodesUptoRow, standIns := [], harness := (true, "2017dd8fa06c9512c2d2d244826b7683801be8198b6a273428943a34565a1e25"), looks := false }, kinds := [], alts := [], laidByText := true, laidKinds := [.data], laidTests := true, laidLooks := .later }
def TextDecodesUptoCardSaid : Prop := Claim7.holds Tryd.pinned (.plain (OpenSpec.upto textDecodesSpec)) textDecodesUptoCard

/-- THE SECOND FORM's CARD OF 'rexmilllaw04.TextSplices'. -/
def textSplicesUptoCard : Claim7 := { stood := { row := textSplicesUptoRow, standIns := [], harness := (true, "2017dd8fa06c9512c2d2d244826b7683801be8198b6a273428943a34565a1e25"), looks := false }, kinds := [], alts := [], laidByText := true, laidKinds := [.data], laidTests := true, laidLooks := .later }
def TextSplicesUptoCardSaid : Prop := Claim7.holds Tryd.pinned (.plain (OpenSpec.upto textSplicesSpec)) textSplicesUptoCard

/-- THE SECOND FORM's CARD OF 'rexmilllaw04.TextAsserts'. -/
def textAssertsUptoCard : Claim7 := { stood := { row := textAssertsUptoRow, standIns := [], harness := (true, "2017dd8fa06c9512c2d2d244826b7683801be8198b6a273428943a34565a1e25"), looks := false }, kinds := [], alts := [], laidByText := true, laidKinds := [.data], laidTests := true, laidLooks := .later }
def TextAssertsUptoCardSaid : Prop := Claim7.holds Tryd.pinned (.plain (OpenSpec.upto textAssertsSpec)) textAssertsUptoCard

/-- THE SECOND FORM's CARD OF 'rexmilllaw04.TextLines'. -/
def textLinesUptoCard : Claim7 := { stood := { row := textLinesUptoRow, standIns := [], harness := (true, "2017dd8fa06c9512c2d2d244826b7683801be8198b6a273428943a34565a1e25"), looks := false }, kinds := [], alts := [], laidByText := true, laidKinds := [.data], laidTests := true, laidLooks := .later }
def TextLinesUptoCardSaid : Prop := Claim7.holds Tryd.pinned (.plain (OpenSpec.upto textLinesSpec)) textLinesUptoCard

/-- THE SECOND FORM's CARD OF 'rexmilllaw04.TextEncodes'. -/
def textEncodesUptoCard : Claim7 := { stood := { row := textEncodesUptoRow, standIns := [], harness := (true, "2017dd8fa06c9512c2d2d244826b7683801be8198b6a273428943a34565a1e25"), looks := false }, kinds := [], alts := [], laidByText := true, laidKinds := [.data], laidTests := true, laidLooks := .later }
def TextEncodesUptoCardSaid : Prop := Claim7.holds Tryd.pinned (.plain (OpenSpec.upto textEncodesSpec)) textEncodesUptoCard

/-- THE SECOND FORM's CARD OF 'rexmilllaw04.TextLimits'. -/
def textLimitsUptoCard : Claim7 := { stood := { row := textLimitsUptoRow, standIns := [], harness := (true, "2017dd8fa06c9512c2d2d244826b7683801be8198b6a273428943a34565a1e25"), looks := false }, kinds := [], alts := [], laidByText := true, laidKinds := [.data], laidTests := true, laidLooks := .later }
def TextLimitsUptoCardSaid : Prop := Claim7.holds Tryd.pinned (.plain (OpenSpec.upto textLimitsSpec)) textLimitsUptoCard

/-- THE SECOND FORM's CARD OF 'rexmilllaw04.TextRound'. -/
def textRoundUptoCard : Claim7 := { stood := { row := textRoundUptoRow, standIns := [], harness := (true, "2017dd8fa06c9512c2d2d244826b7683801be8198b6a273428943a34565a1e25"), looks := false }, kinds := [], alts := [], laidByText := true, laidKinds := [.data], laidTests := true, laidLooks := .later }
def TextRoundUptoCardSaid : Prop := Claim7.holds Tryd.pinned (.plain (OpenSpec.upto textRoundSpec)) textRoundUptoCard

/-- THE SECOND FORM's CARD OF 'rexmilllaw04.TextSent'. -/
def textSentUptoCard : Claim7 := { stood := { row := textSentUptoRow, standIns := [], harness := (true, "2017dd8fa06c9512c2d2d244826b7683801be8198b6a273428943a34565a1e25"), looks := false }, kinds := [], alts := [], laidByText := true, laidKinds := [.data], laidTests := true, laidLooks := .later }
def TextSentUptoCardSaid : Prop := Claim7.holds Tryd.pinned (.plain (OpenSpec.upto textSentSpec)) textSentUptoCard
end Rows
end Go.Proofs.YtcknnlbfbjcjjaaDoor
