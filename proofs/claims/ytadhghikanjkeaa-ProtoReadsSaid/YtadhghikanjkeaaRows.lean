/-
  No cell of these rows narrows 'for every input' (looked for: loops, veiled, ifaces, maps, wideKeys, modest, calm, conditions, laid).
  DERIVED. THE GIVEN ROWS OF THIS SEAT. 5 by the template 'for every input the law returns true; each argument reads behind the call as it read before'; 0 by the template 'total and deterministic' (their statements: YtadhghikanjkeaaTotals.lean).
  GIVEN WITH THE SEED: the statements are not yours to turn. If you find one false, say at which input.
  Laid BY PROGRAM, IN A SANDBOX (cutbox-rows.mjs): the forced cells as the released guide's own fill.sh prints them over the translation e27e8a68294ba5a3… (all of the seat's roots in one cut). By AI agents, Wed Nov 11 2026. No macro, syntax, notation, axiom, sorry.
-/
import Derived.Test.YtadhghikanjkeaaChecked
import GoSem.Claim
import GoSem.ClaimJoined
import GoSem.ClaimMapViews
import Derived.JoinedTies
import Derived.KernelRfl
namespace Go.Proofs.Ytadhghikanjkeaa
/- THE CELL 'sum', in the pinned program and in every row, IS THE sha256 OF THE DUMP (.gsa) THAT YtadhghikanjkeaaProg.lean LOADS. Nothing in Lean hashes anything: it is a label: what it is worth is what the hold of that sum in a sandbox is worth. -/
noncomputable def Try.pinned : Pinned := { name := "ytadhghikanjkeaa", sum := "e27e8a68294ba5a382b314758a91d2bf91fb9998c2485d25f0d8f735ae1c2fca", checked := Try.checked }
namespace Rows
def none {H : Type} : Left H := { results := [], args := [] }

/-- 'rexmilllaw37.ProtoEncodes': WHATEVER THE INPUT: true; the input reads as it did. -/
def protoEncodesSpec : ChangeSpec := { name := "protoEncodes", fn := fun _ => fun
  | [d1, d2, d3, d4] => { results := [.lit (.bool true)], args := [d1, d2, d3, d4] }
  | _ => none }
def protoEncodesRow : OpenClaim := { program := "ytadhghikanjkeaa", sum := "e27e8a68294ba5a382b314758a91d2bf91fb9998c2485d25f0d8f735ae1c2fca", func := "rexmill/rexmilllaw37.ProtoEncodes", spec := "protoEncodes", unfollowed := true, recurses := true, apart := false }
def ProtoEncodesSaid : Prop := protoEncodesRow.holds Try.pinned (OpenSpec.ofChange protoEncodesSpec)

/-- ITS FALSE NEIGHBOUR: 'it returns false'. Refute it at one input. -/
def protoEncodesWrong : ChangeSpec := { name := "protoEncodes", fn := fun _ => fun
  | [d1, d2, d3, d4] => { results := [.lit (.bool false)], args := [d1, d2, d3, d4] }
  | _ => none }
def ProtoEncodesWrongFalsely : Prop := protoEncodesRow.holds Try.pinned (OpenSpec.ofChange protoEncodesWrong)

/-- 'rexmilllaw37.ProtoDecodes': WHATEVER THE INPUT: true; the input reads as it did. -/
def protoDecodesSpec : ChangeSpec := { name := "protoDecodes", fn := fun _ => fun
  | [d1, d2, d3, d4, d5] => { results := [.lit (.bool true)], args := [d1, d2, d3, d4, d5] }
  | _ => none }
def protoDecodesRow : OpenClaim := { program := "ytadhghikanjkeaa", sum := "e27e8a68294ba5a382b314758a91d2bf91fb9998c2485d25f0d8f735ae1c2fca", func := "rexmill/rexmilllaw37.ProtoDecodes", spec := "protoDecodes", unfollowed := true, recurses := true, apart := false }
def ProtoDecodesSaid : Prop := protoDecodesRow.holds Try.pinned (OpenSpec.ofChange protoDecodesSpec)

/-- ITS FALSE NEIGHBOUR: 'it returns false'. Refute it at one input. -/
def protoDecodesWrong : ChangeSpec := { name := "protoDecodes", fn := fun _ => fun
  | [d1, d2, d3, d4, d5] => { results := [.lit (.bool false)], args := [d1, d2, d3, d4, d5] }
  | _ => none }
def ProtoDecodesWrongFalsely : Prop := protoDecodesRow.holds Try.pinned (OpenSpec.ofChange protoDecodesWrong)

/-- 'rexmilllaw37.ProtoAltered': WHATEVER THE INPUT: true; the input reads as it did. -/
def protoAlteredSpec : ChangeSpec := { name := "protoAltered", fn := fun _ => fun
  | [d1, d2, d3, d4, d5] => { results := [.lit (.bool true)], args := [d1, d2, d3, d4, d5] }
  | _ => none }
def protoAlteredRow : OpenClaim := { program := "ytadhghikanjkeaa", sum := "e27e8a68294ba5a382b314758a91d2bf91fb9998c2485d25f0d8f735ae1c2fca", func := "rexmill/rexmilllaw37.ProtoAltered", spec := "protoAltered", unfollowed := true, recurses := true, apart := false }
def ProtoAlteredSaid : Prop := protoAlteredRow.holds Try.pinned (OpenSpec.ofChange protoAlteredSpec)

/-- ITS FALSE NEIGHBOUR: 'it returns false'. Refute it at one input. -/
def protoAlteredWrong : ChangeSpec := { name := "protoAltered", fn := fun _ => fun
  | [d1, d2, d3, d4, d5] => { results := [.lit (.bool false)], args := [d1, d2, d3, d4, d5] }
  | _ => none }
def ProtoAlteredWrongFalsely : Prop := protoAlteredRow.holds Try.pinned (OpenSpec.ofChange protoAlteredWrong)

/-- 'rexmilllaw37.ProtoPieces': WHATEVER THE INPUT: true; the input reads as it did. -/
def protoPiecesSpec : ChangeSpec := { name := "protoPieces", fn := fun _ => fun
  | [d1, d2, d3, d4] => { results := [.lit (.bool true)], args := [d1, d2, d3, d4] }
  | _ => none }
def protoPiecesRow : OpenClaim := { program := "ytadhghikanjkeaa", sum := "e27e8a68294ba5a382b314758a91d2bf91fb9998c2485d25f0d8f735ae1c2fca", func := "rexmill/rexmilllaw37.ProtoPieces", spec := "protoPieces", unfollowed := true, recurses := true, apart := false }
def ProtoPiecesSaid : Prop := protoPiecesRow.holds Try.pinned (OpenSpec.ofChange protoPiecesSpec)

/-- ITS FALSE NEIGHBOUR: 'it returns false'. Refute it at one input. -/
def protoPiecesWrong : ChangeSpec := { name := "protoPieces", fn := fun _ => fun
  | [d1, d2, d3, d4] => { results := [.lit (.bool false)], args := [d1, d2, d3, d4] }
  | _ => none }
def ProtoPiecesWrongFalsely : Prop := protoPiecesRow.holds Try.pinned (OpenSpec.ofChange protoPiecesWrong)

/-- 'rexmilllaw37.ProtoReads': WHATEVER THE INPUT: true; the input reads as it did. -/
def protoReadsSpec : ChangeSpec := { name := "protoReads", fn := fun _ => fun
  | [d1, d2, d3, d4, d5] => { results := [.lit (.bool true)], args := [d1, d2, d3, d4, d5] }
  | _ => none }
def protoReadsRow : OpenClaim := { program := "ytadhghikanjkeaa", sum := "e27e8a68294ba5a382b314758a91d2bf91fb9998c2485d25f0d8f735ae1c2fca", func := "rexmill/rexmilllaw37.ProtoReads", spec := "protoReads", unfollowed := true, recurses := true, apart := false }
def ProtoReadsSaid : Prop := protoReadsRow.holds Try.pinned (OpenSpec.ofChange protoReadsSpec)

/-- ITS FALSE NEIGHBOUR: 'it returns false'. Refute it at one input. -/
def protoReadsWrong : ChangeSpec := { name := "protoReads", fn := fun _ => fun
  | [d1, d2, d3, d4, d5] => { results := [.lit (.bool false)], args := [d1, d2, d3, d4, d5] }
  | _ => none }
def ProtoReadsWrongFalsely : Prop := protoReadsRow.holds Try.pinned (OpenSpec.ofChange protoReadsWrong)

/- THE SECOND FORM. 'bulk': how many values and letters a reading holds, each counted each time it is reached (what is shared counts as often as it is met; a slice's spare places count too). A statement '..UptoSaid' is the law's where the arguments, and the package variables that the reading takes, are together of bulk at most 1048576: NARROWER than '..Said'. Prove '..Said' where nothing that the law and all that it calls make is longer than what came in: it says more and counts as full. Else prove '..UptoSaid'. A law counts once. -/
mutual
def uptoBulk {H : Type} : DataW H → Nat
  | .lit (.string bytes) => bytes.length + 1
  | .lit _ => 1
  | .nil => 1
  | .ptr d => uptoBulk d + 1
  | .slice elems spare => uptoBulkAll elems + uptoBulkAll spare + 1
  | .agg parts => uptoBulkAll parts + 1
  | .iface _ d => uptoBulk d + 1
  | .map entries => uptoBulkEntries entries + 1
  | .held _ => 1
def uptoBulkAll {H : Type} : List (DataW H) → Nat
  | [] => 0
  | d :: r => uptoBulk d + uptoBulkAll r
def uptoBulkEntries {H : Type} : List (Lit × DataW H) → Nat
  | [] => 0
  | x :: r => uptoBulkEntry x + uptoBulkEntries r
def uptoBulkEntry {H : Type} : Lit × DataW H → Nat
  | (.string bytes, d) => bytes.length + uptoBulk d + 1
  | (_, d) => uptoBulk d + 1
 end
def uptoSmall : (H : Type) → List (DataW H) → Bool := fun _ ds => decide (uptoBulkAll ds ≤ 1048576)
def OpenSpec.upto (s : _root_.Go.ChangeSpec) : _root_.Go.OpenSpec := { _root_.Go.OpenSpec.ofChange s with cond := some uptoSmall }

/-- 'rexmilllaw37.ProtoEncodes', WHERE WHAT IT READS IS OF BULK AT MOST 1048576: true; the input reads as it did. -/
def protoEncodesUptoRow : OpenClaim := { program := "ytadhghikanjkeaa", sum := "e27e8a68294ba5a382b314758a91d2bf91fb9998c2485d25f0d8f735ae1c2fca", func := "rexmill/rexmilllaw37.ProtoEncodes", spec := "protoEncodes", unfollowed := true, recurses := true, apart := false, narrowed := true }
def ProtoEncodesUptoSaid : Prop := protoEncodesUptoRow.holds Try.pinned (OpenSpec.upto protoEncodesSpec)

/-- 'rexmilllaw37.ProtoDecodes', WHERE WHAT IT READS IS OF BULK AT MOST 1048576: true; the input reads as it did. -/
def protoDecodesUptoRow : OpenClaim := { program := "ytadhghikanjkeaa", sum := "e27e8a68294ba5a382b314758a91d2bf91fb9998c2485d25f0d8f735ae1c2fca", func := "rexmill/rexmilllaw37.ProtoDecodes", spec := "protoDecodes", unfollowed := true, recurses := true, apart := false, narrowed := true }
def ProtoDecodesUptoSaid : Prop := protoDecodesUptoRow.holds Try.pinned (OpenSpec.upto protoDecodesSpec)

/-- 'rexmilllaw37.ProtoAltered', WHERE WHAT IT READS IS OF BULK AT MOST 1048576: true; the input reads as it did. -/
def protoAlteredUptoRow : OpenClaim := { program := "ytadhghikanjkeaa", sum := "e27e8a68294ba5a382b314758a91d2bf91fb9998c2485d25f0d8f735ae1c2fca", func := "rexmill/rexmilllaw37.ProtoAltered", spec := "protoAltered", unfollowed := true, recurses := true, apart := false, narrowed := true }
def ProtoAlteredUptoSaid : Prop := protoAlteredUptoRow.holds Try.pinned (OpenSpec.upto protoAlteredSpec)

/-- 'rexmilllaw37.ProtoPieces', WHERE WHAT IT READS IS OF BULK AT MOST 1048576: true; the input reads as it did. -/
def protoPiecesUptoRow : OpenClaim := { program := "ytadhghikanjkeaa", sum := "e27e8a68294ba5a382b314758a91d2bf91fb9998c2485d25f0d8f735ae1c2fca", func := "rexmill/rexmilllaw37.ProtoPieces", spec := "protoPieces", unfollowed := true, recurses := true, apart := false, narrowed := true }
def ProtoPiecesUptoSaid : Prop := protoPiecesUptoRow.holds Try.pinned (OpenSpec.upto protoPiecesSpec)

/-- 'rexmilllaw37.ProtoReads', WHERE WHAT IT READS IS OF BULK AT MOST 1048576: true; the input reads as it did. -/
def protoReadsUptoRow : OpenClaim := { program := "ytadhghikanjkeaa", sum := "e27e8a68294ba5a382b314758a91d2bf91fb9998c2485d25f0d8f735ae1c2fca", func := "rexmill/rexmilllaw37.ProtoReads", spec := "protoReads", unfollowed := true, recurses := true, apart := false, narrowed := true }
def ProtoReadsUptoSaid : Prop := protoReadsUptoRow.holds Try.pinned (OpenSpec.upto protoReadsSpec)

end Rows
end Go.Proofs.Ytadhghikanjkeaa
