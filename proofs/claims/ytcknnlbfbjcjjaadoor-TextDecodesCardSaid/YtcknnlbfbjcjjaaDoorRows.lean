/-
  NARROWER THAN 'FOR EVERY INPUT', by the rows' own cells (each row's printed sentence says how): TextDecodes: laid · TextSplices: laid · TextAsserts: laid · TextLines: laid · TextEncodes: laid · TextLimits: laid · TextRound: laid · TextSent: laid.
  DERIVED. THE GIVEN ROWS OF THIS SEAT. 8 by the template 'for every input the law returns true; each argument reads behind the call as it read before'; 0 by the template 'total and deterministic' (their statements: YtcknnlbfbjcjjaaDoorTotals.lean).
  GIVEN WITH THE SEED: the statements are not yours to turn. If you find one false, say at which input.
  Laid BY PROGRAM, IN A SANDBOX (cutbox-rows.mjs): the forced cells as the released guide's own fill.sh prints them over the translation df333de5ed2d6e1a… (all of the seat's roots in one cut). By AI agents, Wed Nov 11 2026. No macro, syntax, notation, axiom, sorry.
-/
import Derived.Test.YtcknnlbfbjcjjaaDoorChecked
import GoSem.Claim
import GoSem.ClaimJoined
import GoSem.ClaimMapViews
import Derived.JoinedTies
import Derived.KernelRfl
namespace Go.Proofs.YtcknnlbfbjcjjaaDoor
/- THE CELL 'sum', in the pinned program and in every row, IS THE sha256 OF THE DUMP (.gsa) THAT YtcknnlbfbjcjjaaDoorProg.lean LOADS. Nothing in Lean hashes anything: it is a label: what it is worth is what the hold of that sum in a sandbox is worth. -/
noncomputable def Tryd.pinned : Pinned := { name := "ytcknnlbfbjcjjaadoor", sum := "df333de5ed2d6e1a352a53c4acc48f3a69fe6b4151225227b10252685afcad5a", checked := Tryd.checked }
namespace Rows
def none {H : Type} : Left H := { results := [], args := [] }

/- WHAT THE LISTED PACKAGE-LEVEL VARIABLES READ AS WHEN THE CALL BEGINS. Each datum BY PROGRAM (the guide's laid-datum.mjs) off the statement by which the dump's own 'gosem.cut.vars' lays the variable. In a bare row this is a premise. The card (YtcknnlbfbjcjjaaDoorCards.lean) ties it to the program's text. -/
def laid_rexmill_text_forms {H : Type} : DataW H := .agg [.agg [.lit (.int .i64 0), .lit (.int .i64 127), .lit (.int .i64 0), .lit (.int .i64 0)], .agg [.lit (.int .i64 128), .lit (.int .i64 2047), .lit (.int .i64 192), .lit (.int .i64 1)], .agg [.lit (.int .i64 2048), .lit (.int .i64 65535), .lit (.int .i64 224), .lit (.int .i64 2)], .agg [.lit (.int .i64 65536), .lit (.int .i64 1114111), .lit (.int .i64 240), .lit (.int .i64 3)]]

/-- 'rexmilllaw04.TextDecodes': WHATEVER THE INPUT: true; the input reads as it did. -/
def textDecodesSpec : ChangeSpec := { name := "textDecodes", fn := fun _ => fun
  | [d1, d2, d3, d4, d5] => { results := [.lit (.bool true)], args := [d1, d2, d3, d4, d5] }
  | _ => none }
def textDecodesRow : OpenClaim := { program := "ytcknnlbfbjcjjaadoor", sum := "df333de5ed2d6e1a352a53c4acc48f3a69fe6b4151225227b10252685afcad5a", func := "rexmill/rexmilllaw04.TextDecodes", spec := "textDecodes", unfollowed := true, recurses := true, named := ["rexmill/text.forms"], apart := false, laid := [("rexmill/text.forms", laid_rexmill_text_forms)] }
def TextDecodesSaid : Prop := textDecodesRow.holds Tryd.pinned (OpenSpec.ofChange textDecodesSpec)

/-- ITS FALSE NEIGHBOUR: 'it returns false'. Refute it at one input. -/
def textDecodesWrong : ChangeSpec := { name := "textDecodes", fn := fun _ => fun
  | [d1, d2, d3, d4, d5] => { results := [.lit (.bool false)], args := [d1, d2, d3, d4, d5] }
  | _ => none }
def TextDecodesWrongFalsely : Prop := textDecodesRow.holds Tryd.pinned (OpenSpec.ofChange textDecodesWrong)

/-- 'rexmilllaw04.TextSplices': WHATEVER THE INPUT: true; the input reads as it did. -/
def textSplicesSpec : ChangeSpec := { name := "textSplices", fn := fun _ => fun
  | [d1, d2, d3, d4, d5] => { results := [.lit (.bool true)], args := [d1, d2, d3, d4, d5] }
  | _ => none }
def textSplicesRow : OpenClaim := { program := "ytcknnlbfbjcjjaadoor", sum := "df333de5ed2d6e1a352a53c4acc48f3a69fe6b4151225227b10252685afcad5a", func := "rexmill/rexmilllaw04.TextSplices", spec := "textSplices", unfollowed := true, recurses := true, named := ["rexmill/text.forms"], apart := false, laid := [("rexmill/text.forms", laid_rexmill_text_forms)] }
def TextSplicesSaid : Prop := textSplicesRow.holds Tryd.pinned (OpenSpec.ofChange textSplicesSpec)

/-- ITS FALSE NEIGHBOUR: 'it returns false'. Refute it at one input. -/
def textSplicesWrong : ChangeSpec := { name := "textSplices", fn := fun _ => fun
  | [d1, d2, d3, d4, d5] => { results := [.lit (.bool false)], args := [d1, d2, d3, d4, d5] }
  | _ => none }
def TextSplicesWrongFalsely : Prop := textSplicesRow.holds Tryd.pinned (OpenSpec.ofChange textSplicesWrong)

/-- 'rexmilllaw04.TextAsserts': WHATEVER THE INPUT: true; the input reads as it did. -/
def textAssertsSpec : ChangeSpec := { name := "textAsserts", fn := fun _ => fun
  | [d1, d2, d3, d4] => { results := [.lit (.bool true)], args := [d1, d2, d3, d4] }
  | _ => none }
def textAssertsRow : OpenClaim := { program := "ytcknnlbfbjcjjaadoor", sum := "df333de5ed2d6e1a352a53c4acc48f3a69fe6b4151225227b10252685afcad5a", func := "rexmill/rexmilllaw04.TextAsserts", spec := "textAsserts", unfollowed := true, recurses := true, named := ["rexmill/text.forms"], apart := false, laid := [("rexmill/text.forms", laid_rexmill_text_forms)] }
def TextAssertsSaid : Prop := textAssertsRow.holds Tryd.pinned (OpenSpec.ofChange textAssertsSpec)

/-- ITS FALSE NEIGHBOUR: 'it returns false'. Refute it at one input. -/
def textAssertsWrong : ChangeSpec := { name := "textAsserts", fn := fun _ => fun
  | [d1, d2, d3, d4] => { results := [.lit (.bool false)], args := [d1, d2, d3, d4] }
  | _ => none }
def TextAssertsWrongFalsely : Prop := textAssertsRow.holds Tryd.pinned (OpenSpec.ofChange textAssertsWrong)

/-- 'rexmilllaw04.TextLines': WHATEVER THE INPUT: true; the input reads as it did. -/
def textLinesSpec : ChangeSpec := { name := "textLines", fn := fun _ => fun
  | [d1, d2] => { results := [.lit (.bool true)], args := [d1, d2] }
  | _ => none }
def textLinesRow : OpenClaim := { program := "ytcknnlbfbjcjjaadoor", sum := "df333de5ed2d6e1a352a53c4acc48f3a69fe6b4151225227b10252685afcad5a", func := "rexmill/rexmilllaw04.TextLines", spec := "textLines", unfollowed := true, recurses := true, named := ["rexmill/text.forms"], apart := false, laid := [("rexmill/text.forms", laid_rexmill_text_forms)] }
def TextLinesSaid : Prop := textLinesRow.holds Tryd.pinned (OpenSpec.ofChange textLinesSpec)

/-- ITS FALSE NEIGHBOUR: 'it returns false'. Refute it at one input. -/
def textLinesWrong : ChangeSpec := { name := "textLines", fn := fun _ => fun
  | [d1, d2] => { results := [.lit (.bool false)], args := [d1, d2] }
  | _ => none }
def TextLinesWrongFalsely : Prop := textLinesRow.holds Tryd.pinned (OpenSpec.ofChange textLinesWrong)

/-- 'rexmilllaw04.TextEncodes': WHATEVER THE INPUT: true; the input reads as it did. -/
def textEncodesSpec : ChangeSpec := { name := "textEncodes", fn := fun _ => fun
  | [d1, d2, d3] => { results := [.lit (.bool true)], args := [d1, d2, d3] }
  | _ => none }
def textEncodesRow : OpenClaim := { program := "ytcknnlbfbjcjjaadoor", sum := "df333de5ed2d6e1a352a53c4acc48f3a69fe6b4151225227b10252685afcad5a", func := "rexmill/rexmilllaw04.TextEncodes", spec := "textEncodes", unfollowed := true, recurses := true, named := ["rexmill/text.forms"], apart := false, laid := [("rexmill/text.forms", laid_rexmill_text_forms)] }
def TextEncodesSaid : Prop := textEncodesRow.holds Tryd.pinned (OpenSpec.ofChange textEncodesSpec)

/-- ITS FALSE NEIGHBOUR: 'it returns false'. Refute it at one input. -/
def textEncodesWrong : ChangeSpec := { name := "textEncodes", fn := fun _ => fun
  | [d1, d2, d3] => { results := [.lit (.bool false)], args := [d1, d2, d3] }
  | _ => none }
def TextEncodesWrongFalsely : Prop := textEncodesRow.holds Tryd.pinned (OpenSpec.ofChange textEncodesWrong)

/-- 'rexmilllaw04.TextLimits': WHATEVER THE INPUT: true; the input reads as it did. -/
def textLimitsSpec : ChangeSpec := { name := "textLimits", fn := fun _ => fun
  | [d1, d2, d3] => { results := [.lit (.bool true)], args := [d1, d2, d3] }
  | _ => none }
def textLimitsRow : OpenClaim := { program := "ytcknnlbfbjcjjaadoor", sum := "df333de5ed2d6e1a352a53c4acc48f3a69fe6b4151225227b10252685afcad5a", func := "rexmill/rexmilllaw04.TextLimits", spec := "textLimits", unfollowed := true, recurses := true, named := ["rexmill/text.forms"], apart := false, laid := [("rexmill/text.forms", laid_rexmill_text_forms)] }
def TextLimitsSaid : Prop := textLimitsRow.holds Tryd.pinned (OpenSpec.ofChange textLimitsSpec)

/-- ITS FALSE NEIGHBOUR: 'it returns false'. Refute it at one input. -/
def textLimitsWrong : ChangeSpec := { name := "textLimits", fn := fun _ => fun
  | [d1, d2, d3] => { results := [.lit (.bool false)], args := [d1, d2, d3] }
  | _ => none }
def TextLimitsWrongFalsely : Prop := textLimitsRow.holds Tryd.pinned (OpenSpec.ofChange textLimitsWrong)

/-- 'rexmilllaw04.TextRound': WHATEVER THE INPUT: true; the input reads as it did. -/
def textRoundSpec : ChangeSpec := { name := "textRound", fn := fun _ => fun
  | [d1, d2, d3, d4, d5] => { results := [.lit (.bool true)], args := [d1, d2, d3, d4, d5] }
  | _ => none }
def textRoundRow : OpenClaim := { program := "ytcknnlbfbjcjjaadoor", sum := "df333de5ed2d6e1a352a53c4acc48f3a69fe6b4151225227b10252685afcad5a", func := "rexmill/rexmilllaw04.TextRound", spec := "textRound", unfollowed := true, recurses := true, named := ["rexmill/text.forms"], apart := false, laid := [("rexmill/text.forms", laid_rexmill_text_forms)] }
def TextRoundSaid : Prop := textRoundRow.holds Tryd.pinned (OpenSpec.ofChange textRoundSpec)

/-- ITS FALSE NEIGHBOUR: 'it returns false'. Refute it at one input. -/
def textRoundWrong : ChangeSpec := { name := "textRound", fn := fun _ => fun
  | [d1, d2, d3, d4, d5] => { results := [.lit (.bool false)], args := [d1, d2, d3, d4, d5] }
  | _ => none }
def TextRoundWrongFalsely : Prop := textRoundRow.holds Tryd.pinned (OpenSpec.ofChange textRoundWrong)

/-- 'rexmilllaw04.TextSent': WHATEVER THE INPUT: true; the input reads as it did. -/
def textSentSpec : ChangeSpec := { name := "textSent", fn := fun _ => fun
  | [d1, d2, d3] => { results := [.lit (.bool true)], args := [d1, d2, d3] }
  | _ => none }
def textSentRow : OpenClaim := { program := "ytcknnlbfbjcjjaadoor", sum := "df333de5ed2d6e1a352a53c4acc48f3a69fe6b4151225227b10252685afcad5a", func := "rexmill/rexmilllaw04.TextSent", spec := "textSent", unfollowed := true, recurses := true, named := ["rexmill/text.forms"], apart := false, laid := [("rexmill/text.forms", laid_rexmill_text_forms)] }
def TextSentSaid : Prop := textSentRow.holds Tryd.pinned (OpenSpec.ofChange textSentSpec)

/-- ITS FALSE NEIGHBOUR: 'it returns false'. Refute it at one input. -/
def textSentWrong : ChangeSpec := { name := "textSent", fn := fun _ => fun
  | [d1, d2, d3] => { results := [.lit (.bool false)], args := [d1, d2, d3] }
  | _ => none }
def TextSentWrongFalsely : Prop := textSentRow.holds Tryd.pinned (OpenSpec.ofChange textSentWrong)

/- THE SECOND FORM. 'bulk': how many values and letters a reading holds, each counted each time it is reached (what is shared counts as often as it is met; a slice's spare places count too). A statement '..UptoSaid' is the law's where the arguments, and the package variables that the reading takes, are together of bulk at most 1048576: NARROWER than '..Said'. Prove '..Said' where nothing that the law and all that it calls make is longer than what came in: it says more and counts as full. Else prove '..UptoSaid'. A law counts once. -/
mutual
def uptoBulk {H : Type} : DataW H → Nat
  | .lit (.string bytes) => bytes.length + 1
  | .lit _ => 1
  | .nil => 1
  | .ptr d => uptoBulk d + 1
  | .slice elems spare => uptoBulkAll elems + uptoBulkAll spare + 1
  | .agg parts => uptoBulkAll parts + 1
  | .iface _ d => uptoBulk d + 1
  | .map entries => uptoBulkEntries entries + 1
  | .held _ => 1
def uptoBulkAll {H : Type} : List (DataW H) → Nat
  | [] => 0
  | d :: r => uptoBulk d + uptoBulkAll r
def uptoBulkEntries {H : Type} : List (Lit × DataW H) → Nat
  | [] => 0
  | x :: r => uptoBulkEntry x + uptoBulkEntries r
def uptoBulkEntry {H : Type} : Lit × DataW H → Nat
  | (.string bytes, d) => bytes.length + uptoBulk d + 1
  | (_, d) => uptoBulk d + 1
 end
def uptoSmall : (H : Type) → List (DataW H) → Bool := fun _ ds => decide (uptoBulkAll ds ≤ 1048576)
def OpenSpec.upto (s : _root_.Go.ChangeSpec) : _root_.Go.OpenSpec := { _root_.Go.OpenSpec.ofChange s with cond := some uptoSmall }

/-- 'rexmilllaw04.TextDecodes', WHERE WHAT IT READS IS OF BULK AT MOST 1048576: true; the input reads as it did. -/
def textDecodesUptoRow : OpenClaim := { program := "ytcknnlbfbjcjjaadoor", sum := "df333de5ed2d6e1a352a53c4acc48f3a69fe6b4151225227b10252685afcad5a", func := "rexmill/rexmilllaw04.TextDecodes", spec := "textDecodes", unfollowed := true, recurses := true, named := ["rexmill/text.forms"], apart := false, laid := [("rexmill/text.forms", laid_rexmill_text_forms)], narrowed := true }
def TextDecodesUptoSaid : Prop := textDecodesUptoRow.holds Tryd.pinned (OpenSpec.upto textDecodesSpec)

/-- 'rexmilllaw04.TextSplices', WHERE WHAT IT READS IS OF BULK AT MOST 1048576: true; the input reads as it did. -/
def textSplicesUptoRow : OpenClaim := { program := "ytcknnlbfbjcjjaadoor", sum := "df333de5ed2d6e1a352a53c4acc48f3a69fe6b4151225227b10252685afcad5a", func := "rexmill/rexmilllaw04.TextSplices", spec := "textSplices", unfollowed := true, recurses := true, named := ["rexmill/text.forms"], apart := false, laid := [("rexmill/text.forms", laid_rexmill_text_forms)], narrowed := true }
def TextSplicesUptoSaid : Prop := textSplicesUptoRow.holds Tryd.pinned (OpenSpec.upto textSplicesSpec)

/-- 'rexmilllaw04.TextAsserts', WHERE WHAT IT READS IS OF BULK AT MOST 1048576: true; the input reads as it did. -/
def textAssertsUptoRow : OpenClaim := { program := "ytcknnlbfbjcjjaadoor", sum := "df333de5ed2d6e1a352a53c4acc48f3a69fe6b4151225227b10252685afcad5a", func := "rexmill/rexmilllaw04.TextAsserts", spec := "textAsserts", unfollowed := true, recurses := true, named := ["rexmill/text.forms"], apart := false, laid := [("rexmill/text.forms", laid_rexmill_text_forms)], narrowed := true }
def TextAssertsUptoSaid : Prop := textAssertsUptoRow.holds Tryd.pinned (OpenSpec.upto textAssertsSpec)

/-- 'rexmilllaw04.TextLines', WHERE WHAT IT READS IS OF BULK AT MOST 1048576: true; the input reads as it did. -/
def textLinesUptoRow : OpenClaim := { program := "ytcknnlbfbjcjjaadoor", sum := "df333de5ed2d6e1a352a53c4acc48f3a69fe6b4151225227b10252685afcad5a", func := "rexmill/rexmilllaw04.TextLines", spec := "textLines", unfollowed := true, recurses := true, named := ["rexmill/text.forms"], apart := false, laid := [("rexmill/text.forms", laid_rexmill_text_forms)], narrowed := true }
def TextLinesUptoSaid : Prop := textLinesUptoRow.holds Tryd.pinned (OpenSpec.upto textLinesSpec)

/-- 'rexmilllaw04.TextEncodes', WHERE WHAT IT READS IS OF BULK AT MOST 1048576: true; the input reads as it did. -/
def textEncodesUptoRow : OpenClaim := { program := "ytcknnlbfbjcjjaadoor", sum := "df333de5ed2d6e1a352a53c4acc48f3a69fe6b4151225227b10252685afcad5a", func := "rexmill/rexmilllaw04.TextEncodes", spec := "textEncodes", unfollowed := true, recurses := true, named := ["rexmill/text.forms"], apart := false, laid := [("rexmill/text.forms", laid_rexmill_text_forms)], narrowed := true }
def TextEncodesUptoSaid : Prop := textEncodesUptoRow.holds Tryd.pinned (OpenSpec.upto textEncodesSpec)

/-- 'rexmilllaw04.TextLimits', WHERE WHAT IT READS IS OF BULK AT MOST 1048576: true; the input reads as it did. -/
def textLimitsUptoRow : OpenClaim := { program := "ytcknnlbfbjcjjaadoor", sum := "df333de5ed2d6e1a352a53c4acc48f3a69fe6b4151225227b10252685afcad5a", func := "rexmill/rexmilllaw04.TextLimits", spec := "textLimits", unfollowed := true, recurses := true, named := ["rexmill/text.forms"], apart := false, laid := [("rexmill/text.forms", laid_rexmill_text_forms)], narrowed := true }
def TextLimitsUptoSaid : Prop := textLimitsUptoRow.holds Tryd.pinned (OpenSpec.upto textLimitsSpec)

/-- 'rexmilllaw04.TextRound', WHERE WHAT IT READS IS OF BULK AT MOST 1048576: true; the input reads as it did. -/
def textRoundUptoRow : OpenClaim := { program := "ytcknnlbfbjcjjaadoor", sum := "df333de5ed2d6e1a352a53c4acc48f3a69fe6b4151225227b10252685afcad5a", func := "rexmill/rexmilllaw04.TextRound", spec := "textRound", unfollowed := true, recurses := true, named := ["rexmill/text.forms"], apart := false, laid := [("rexmill/text.forms", laid_rexmill_text_forms)], narrowed := true }
def TextRoundUptoSaid : Prop := textRoundUptoRow.holds Tryd.pinned (OpenSpec.upto textRoundSpec)

/-- 'rexmilllaw04.TextSent', WHERE WHAT IT READS IS OF BULK AT MOST 1048576: true; the input reads as it did. -/
def textSentUptoRow : OpenClaim := { program := "ytcknnlbfbjcjjaadoor", sum := "df333de5ed2d6e1a352a53c4acc48f3a69fe6b4151225227b10252685afcad5a", func := "rexmill/rexmilllaw04.TextSent", spec := "textSent", unfollowed := true, recurses := true, named := ["rexmill/text.forms"], apart := false, laid := [("rexmill/text.forms", laid_rexmill_text_forms)], narrowed := true }
def TextSentUptoSaid : Prop := textSentUptoRow.holds Tryd.pinned (OpenSpec.upto textSentSpec)

end Rows
end Go.Proofs.YtcknnlbfbjcjjaaDoor
