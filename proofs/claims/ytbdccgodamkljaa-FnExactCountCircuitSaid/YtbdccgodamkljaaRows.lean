/-
  No cell of these rows narrows 'for every input' (looked for: loops, veiled, ifaces, maps, wideKeys, modest, calm, conditions, laid).
  DERIVED. THE GIVEN ROWS OF THIS SEAT. 12 by the template 'for every input the law returns true; each argument reads behind the call as it read before'; 0 by the template 'total and deterministic' (their statements: YtbdccgodamkljaaTotals.lean).
  GIVEN WITH THE SEED: the statements are not yours to turn. If you find one false, say at which input.
  Laid BY PROGRAM, IN A SANDBOX (cutbox-rows.mjs): the forced cells as the released guide's own fill.sh prints them over the translation 9d7f9f346f9b4a57… (all of the seat's roots in one cut). By AI agents, Wed Nov 11 2026. No macro, syntax, notation, axiom, sorry.
-/
import Derived.Test.YtbdccgodamkljaaChecked
import GoSem.Claim
import GoSem.ClaimJoined
import GoSem.ClaimMapViews
import Derived.JoinedTies
import Derived.KernelRfl
namespace Go.Proofs.Ytbdccgodamkljaa
/- THE CELL 'sum', in the pinned program and in every row, IS THE sha256 OF THE DUMP (.gsa) THAT YtbdccgodamkljaaProg.lean LOADS. Nothing in Lean hashes anything: it is a label: what it is worth is what the hold of that sum in a sandbox is worth. -/
noncomputable def Try.pinned : Pinned := { name := "ytbdccgodamkljaa", sum := "9d7f9f346f9b4a57adbdcbecda7d022b90d824d3d1136b8bf462a51f31d612d8", checked := Try.checked }
namespace Rows
def none {H : Type} : Left H := { results := [], args := [] }

/-- 'laws.FnExactIsCircuit': WHATEVER THE INPUT: true; the input reads as it did. -/
def fnExactIsCircuitSpec : ChangeSpec := { name := "fnExactIsCircuit", fn := fun _ => fun
  | [d] => { results := [.lit (.bool true)], args := [d] }
  | _ => none }
def fnExactIsCircuitRow : OpenClaim := { program := "ytbdccgodamkljaa", sum := "9d7f9f346f9b4a57adbdcbecda7d022b90d824d3d1136b8bf462a51f31d612d8", func := "loop.example/g00877/laws.FnExactIsCircuit", spec := "fnExactIsCircuit", unfollowed := true, recurses := true, apart := false }
def FnExactIsCircuitSaid : Prop := fnExactIsCircuitRow.holds Try.pinned (OpenSpec.ofChange fnExactIsCircuitSpec)

/-- ITS FALSE NEIGHBOUR: 'it returns false'. Refute it at one input. -/
def fnExactIsCircuitWrong : ChangeSpec := { name := "fnExactIsCircuit", fn := fun _ => fun
  | [d] => { results := [.lit (.bool false)], args := [d] }
  | _ => none }
def FnExactIsCircuitWrongFalsely : Prop := fnExactIsCircuitRow.holds Try.pinned (OpenSpec.ofChange fnExactIsCircuitWrong)

/-- 'laws.FnExactIsArith': WHATEVER THE INPUT: true; the input reads as it did. -/
def fnExactIsArithSpec : ChangeSpec := { name := "fnExactIsArith", fn := fun _ => fun
  | [d] => { results := [.lit (.bool true)], args := [d] }
  | _ => none }
def fnExactIsArithRow : OpenClaim := { program := "ytbdccgodamkljaa", sum := "9d7f9f346f9b4a57adbdcbecda7d022b90d824d3d1136b8bf462a51f31d612d8", func := "loop.example/g00877/laws.FnExactIsArith", spec := "fnExactIsArith", unfollowed := true, recurses := true, apart := false }
def FnExactIsArithSaid : Prop := fnExactIsArithRow.holds Try.pinned (OpenSpec.ofChange fnExactIsArithSpec)

/-- ITS FALSE NEIGHBOUR: 'it returns false'. Refute it at one input. -/
def fnExactIsArithWrong : ChangeSpec := { name := "fnExactIsArith", fn := fun _ => fun
  | [d] => { results := [.lit (.bool false)], args := [d] }
  | _ => none }
def FnExactIsArithWrongFalsely : Prop := fnExactIsArithRow.holds Try.pinned (OpenSpec.ofChange fnExactIsArithWrong)

/-- 'laws.FnExactCountCircuit': WHATEVER THE INPUT: true; the input reads as it did. -/
def fnExactCountCircuitSpec : ChangeSpec := { name := "fnExactCountCircuit", fn := fun _ => fun
  | [d] => { results := [.lit (.bool true)], args := [d] }
  | _ => none }
def fnExactCountCircuitRow : OpenClaim := { program := "ytbdccgodamkljaa", sum := "9d7f9f346f9b4a57adbdcbecda7d022b90d824d3d1136b8bf462a51f31d612d8", func := "loop.example/g00877/laws.FnExactCountCircuit", spec := "fnExactCountCircuit", unfollowed := true, recurses := true, apart := false }
def FnExactCountCircuitSaid : Prop := fnExactCountCircuitRow.holds Try.pinned (OpenSpec.ofChange fnExactCountCircuitSpec)

/-- ITS FALSE NEIGHBOUR: 'it returns false'. Refute it at one input. -/
def fnExactCountCircuitWrong : ChangeSpec := { name := "fnExactCountCircuit", fn := fun _ => fun
  | [d] => { results := [.lit (.bool false)], args := [d] }
  | _ => none }
def FnExactCountCircuitWrongFalsely : Prop := fnExactCountCircuitRow.holds Try.pinned (OpenSpec.ofChange fnExactCountCircuitWrong)

/-- 'laws.FnExactConstantCircuit': WHATEVER THE INPUT: true; the input reads as it did. -/
def fnExactConstantCircuitSpec : ChangeSpec := { name := "fnExactConstantCircuit", fn := fun _ => fun
  | [d1, d2] => { results := [.lit (.bool true)], args := [d1, d2] }
  | _ => none }
def fnExactConstantCircuitRow : OpenClaim := { program := "ytbdccgodamkljaa", sum := "9d7f9f346f9b4a57adbdcbecda7d022b90d824d3d1136b8bf462a51f31d612d8", func := "loop.example/g00877/laws.FnExactConstantCircuit", spec := "fnExactConstantCircuit", unfollowed := true, recurses := true, apart := false }
def FnExactConstantCircuitSaid : Prop := fnExactConstantCircuitRow.holds Try.pinned (OpenSpec.ofChange fnExactConstantCircuitSpec)

/-- ITS FALSE NEIGHBOUR: 'it returns false'. Refute it at one input. -/
def fnExactConstantCircuitWrong : ChangeSpec := { name := "fnExactConstantCircuit", fn := fun _ => fun
  | [d1, d2] => { results := [.lit (.bool false)], args := [d1, d2] }
  | _ => none }
def FnExactConstantCircuitWrongFalsely : Prop := fnExactConstantCircuitRow.holds Try.pinned (OpenSpec.ofChange fnExactConstantCircuitWrong)

/-- 'laws.FnExactCountGates': WHATEVER THE INPUT: true; the input reads as it did. -/
def fnExactCountGatesSpec : ChangeSpec := { name := "fnExactCountGates", fn := fun _ => fun
  | [d] => { results := [.lit (.bool true)], args := [d] }
  | _ => none }
def fnExactCountGatesRow : OpenClaim := { program := "ytbdccgodamkljaa", sum := "9d7f9f346f9b4a57adbdcbecda7d022b90d824d3d1136b8bf462a51f31d612d8", func := "loop.example/g00877/laws.FnExactCountGates", spec := "fnExactCountGates", unfollowed := true, recurses := true, apart := false }
def FnExactCountGatesSaid : Prop := fnExactCountGatesRow.holds Try.pinned (OpenSpec.ofChange fnExactCountGatesSpec)

/-- ITS FALSE NEIGHBOUR: 'it returns false'. Refute it at one input. -/
def fnExactCountGatesWrong : ChangeSpec := { name := "fnExactCountGates", fn := fun _ => fun
  | [d] => { results := [.lit (.bool false)], args := [d] }
  | _ => none }
def FnExactCountGatesWrongFalsely : Prop := fnExactCountGatesRow.holds Try.pinned (OpenSpec.ofChange fnExactCountGatesWrong)

/-- 'laws.FnExactDepthOf': WHATEVER THE INPUT: true; the input reads as it did. -/
def fnExactDepthOfSpec : ChangeSpec := { name := "fnExactDepthOf", fn := fun _ => fun
  | [d] => { results := [.lit (.bool true)], args := [d] }
  | _ => none }
def fnExactDepthOfRow : OpenClaim := { program := "ytbdccgodamkljaa", sum := "9d7f9f346f9b4a57adbdcbecda7d022b90d824d3d1136b8bf462a51f31d612d8", func := "loop.example/g00877/laws.FnExactDepthOf", spec := "fnExactDepthOf", unfollowed := true, recurses := true, apart := false }
def FnExactDepthOfSaid : Prop := fnExactDepthOfRow.holds Try.pinned (OpenSpec.ofChange fnExactDepthOfSpec)

/-- ITS FALSE NEIGHBOUR: 'it returns false'. Refute it at one input. -/
def fnExactDepthOfWrong : ChangeSpec := { name := "fnExactDepthOf", fn := fun _ => fun
  | [d] => { results := [.lit (.bool false)], args := [d] }
  | _ => none }
def FnExactDepthOfWrongFalsely : Prop := fnExactDepthOfRow.holds Try.pinned (OpenSpec.ofChange fnExactDepthOfWrong)

/-- 'laws.FnExactCountArith': WHATEVER THE INPUT: true; the input reads as it did. -/
def fnExactCountArithSpec : ChangeSpec := { name := "fnExactCountArith", fn := fun _ => fun
  | [d] => { results := [.lit (.bool true)], args := [d] }
  | _ => none }
def fnExactCountArithRow : OpenClaim := { program := "ytbdccgodamkljaa", sum := "9d7f9f346f9b4a57adbdcbecda7d022b90d824d3d1136b8bf462a51f31d612d8", func := "loop.example/g00877/laws.FnExactCountArith", spec := "fnExactCountArith", unfollowed := true, recurses := true, apart := false }
def FnExactCountArithSaid : Prop := fnExactCountArithRow.holds Try.pinned (OpenSpec.ofChange fnExactCountArithSpec)

/-- ITS FALSE NEIGHBOUR: 'it returns false'. Refute it at one input. -/
def fnExactCountArithWrong : ChangeSpec := { name := "fnExactCountArith", fn := fun _ => fun
  | [d] => { results := [.lit (.bool false)], args := [d] }
  | _ => none }
def FnExactCountArithWrongFalsely : Prop := fnExactCountArithRow.holds Try.pinned (OpenSpec.ofChange fnExactCountArithWrong)

/-- 'laws.FnExactProductDepth': WHATEVER THE INPUT: true; the input reads as it did. -/
def fnExactProductDepthSpec : ChangeSpec := { name := "fnExactProductDepth", fn := fun _ => fun
  | [d] => { results := [.lit (.bool true)], args := [d] }
  | _ => none }
def fnExactProductDepthRow : OpenClaim := { program := "ytbdccgodamkljaa", sum := "9d7f9f346f9b4a57adbdcbecda7d022b90d824d3d1136b8bf462a51f31d612d8", func := "loop.example/g00877/laws.FnExactProductDepth", spec := "fnExactProductDepth", unfollowed := true, recurses := true, apart := false }
def FnExactProductDepthSaid : Prop := fnExactProductDepthRow.holds Try.pinned (OpenSpec.ofChange fnExactProductDepthSpec)

/-- ITS FALSE NEIGHBOUR: 'it returns false'. Refute it at one input. -/
def fnExactProductDepthWrong : ChangeSpec := { name := "fnExactProductDepth", fn := fun _ => fun
  | [d] => { results := [.lit (.bool false)], args := [d] }
  | _ => none }
def FnExactProductDepthWrongFalsely : Prop := fnExactProductDepthRow.holds Try.pinned (OpenSpec.ofChange fnExactProductDepthWrong)

/-- 'laws.FnExactWireValues': WHATEVER THE INPUT: true; the input reads as it did. -/
def fnExactWireValuesSpec : ChangeSpec := { name := "fnExactWireValues", fn := fun _ => fun
  | [d1, d2, d3] => { results := [.lit (.bool true)], args := [d1, d2, d3] }
  | _ => none }
def fnExactWireValuesRow : OpenClaim := { program := "ytbdccgodamkljaa", sum := "9d7f9f346f9b4a57adbdcbecda7d022b90d824d3d1136b8bf462a51f31d612d8", func := "loop.example/g00877/laws.FnExactWireValues", spec := "fnExactWireValues", unfollowed := true, recurses := true, apart := false }
def FnExactWireValuesSaid : Prop := fnExactWireValuesRow.holds Try.pinned (OpenSpec.ofChange fnExactWireValuesSpec)

/-- ITS FALSE NEIGHBOUR: 'it returns false'. Refute it at one input. -/
def fnExactWireValuesWrong : ChangeSpec := { name := "fnExactWireValues", fn := fun _ => fun
  | [d1, d2, d3] => { results := [.lit (.bool false)], args := [d1, d2, d3] }
  | _ => none }
def FnExactWireValuesWrongFalsely : Prop := fnExactWireValuesRow.holds Try.pinned (OpenSpec.ofChange fnExactWireValuesWrong)

/-- 'laws.FnExactRunWith': WHATEVER THE INPUT: true; the input reads as it did. -/
def fnExactRunWithSpec : ChangeSpec := { name := "fnExactRunWith", fn := fun _ => fun
  | [d1, d2, d3] => { results := [.lit (.bool true)], args := [d1, d2, d3] }
  | _ => none }
def fnExactRunWithRow : OpenClaim := { program := "ytbdccgodamkljaa", sum := "9d7f9f346f9b4a57adbdcbecda7d022b90d824d3d1136b8bf462a51f31d612d8", func := "loop.example/g00877/laws.FnExactRunWith", spec := "fnExactRunWith", unfollowed := true, recurses := true, apart := false }
def FnExactRunWithSaid : Prop := fnExactRunWithRow.holds Try.pinned (OpenSpec.ofChange fnExactRunWithSpec)

/-- ITS FALSE NEIGHBOUR: 'it returns false'. Refute it at one input. -/
def fnExactRunWithWrong : ChangeSpec := { name := "fnExactRunWith", fn := fun _ => fun
  | [d1, d2, d3] => { results := [.lit (.bool false)], args := [d1, d2, d3] }
  | _ => none }
def FnExactRunWithWrongFalsely : Prop := fnExactRunWithRow.holds Try.pinned (OpenSpec.ofChange fnExactRunWithWrong)

/-- 'laws.FnExactUsedWires': WHATEVER THE INPUT: true; the input reads as it did. -/
def fnExactUsedWiresSpec : ChangeSpec := { name := "fnExactUsedWires", fn := fun _ => fun
  | [d] => { results := [.lit (.bool true)], args := [d] }
  | _ => none }
def fnExactUsedWiresRow : OpenClaim := { program := "ytbdccgodamkljaa", sum := "9d7f9f346f9b4a57adbdcbecda7d022b90d824d3d1136b8bf462a51f31d612d8", func := "loop.example/g00877/laws.FnExactUsedWires", spec := "fnExactUsedWires", unfollowed := true, recurses := true, apart := false }
def FnExactUsedWiresSaid : Prop := fnExactUsedWiresRow.holds Try.pinned (OpenSpec.ofChange fnExactUsedWiresSpec)

/-- ITS FALSE NEIGHBOUR: 'it returns false'. Refute it at one input. -/
def fnExactUsedWiresWrong : ChangeSpec := { name := "fnExactUsedWires", fn := fun _ => fun
  | [d] => { results := [.lit (.bool false)], args := [d] }
  | _ => none }
def FnExactUsedWiresWrongFalsely : Prop := fnExactUsedWiresRow.holds Try.pinned (OpenSpec.ofChange fnExactUsedWiresWrong)

/-- 'laws.FnExactEvalCircuit': WHATEVER THE INPUT: true; the input reads as it did. -/
def fnExactEvalCircuitSpec : ChangeSpec := { name := "fnExactEvalCircuit", fn := fun _ => fun
  | [d1, d2, d3] => { results := [.lit (.bool true)], args := [d1, d2, d3] }
  | _ => none }
def fnExactEvalCircuitRow : OpenClaim := { program := "ytbdccgodamkljaa", sum := "9d7f9f346f9b4a57adbdcbecda7d022b90d824d3d1136b8bf462a51f31d612d8", func := "loop.example/g00877/laws.FnExactEvalCircuit", spec := "fnExactEvalCircuit", unfollowed := true, recurses := true, apart := false }
def FnExactEvalCircuitSaid : Prop := fnExactEvalCircuitRow.holds Try.pinned (OpenSpec.ofChange fnExactEvalCircuitSpec)

/-- ITS FALSE NEIGHBOUR: 'it returns false'. Refute it at one input. -/
def fnExactEvalCircuitWrong : ChangeSpec := { name := "fnExactEvalCircuit", fn := fun _ => fun
  | [d1, d2, d3] => { results := [.lit (.bool false)], args := [d1, d2, d3] }
  | _ => none }
def FnExactEvalCircuitWrongFalsely : Prop := fnExactEvalCircuitRow.holds Try.pinned (OpenSpec.ofChange fnExactEvalCircuitWrong)

/- THE SECOND FORM. 'bulk': how many values and letters a reading holds, each counted each time it is reached (what is shared counts as often as it is met; a slice's spare places count too). A statement '..UptoSaid' is the law's where the arguments, and the package variables that the reading takes, are together of bulk at most 1048576: NARROWER than '..Said'. Prove '..Said' where nothing that the law and all that it calls make is longer than what came in: it says more and counts as full. Else prove '..UptoSaid'. A law counts once. -/
mutual
def uptoBulk {H : Type} : DataW H → Nat
  | .lit (.string bytes) => bytes.length + 1
  | .lit _ => 1
  | .nil => 1
  | .ptr d => uptoBulk d + 1
  | .slice elems spare => uptoBulkAll elems + uptoBulkAll spare + 1
  | .agg parts => uptoBulkAll parts + 1
  | .iface _ d => uptoBulk d + 1
  | .map entries => uptoBulkEntries entries + 1
  | .held _ => 1
def uptoBulkAll {H : Type} : List (DataW H) → Nat
  | [] => 0
  | d :: r => uptoBulk d + uptoBulkAll r
def uptoBulkEntries {H : Type} : List (Lit × DataW H) → Nat
  | [] => 0
  | x :: r => uptoBulkEntry x + uptoBulkEntries r
def uptoBulkEntry {H : Type} : Lit × DataW H → Nat
  | (.string bytes, d) => bytes.length + uptoBulk d + 1
  | (_, d) => uptoBulk d + 1
 end
def uptoSmall : (H : Type) → List (DataW H) → Bool := fun _ ds => decide (uptoBulkAll ds ≤ 1048576)
def OpenSpec.upto (s : _root_.Go.ChangeSpec) : _root_.Go.OpenSpec := { _root_.Go.OpenSpec.ofChange s with cond := some uptoSmall }

/-- 'laws.FnExactIsCircuit', WHERE WHAT IT READS IS OF BULK AT MOST 1048576: true; the input reads as it did. -/
def fnExactIsCircuitUptoRow : OpenClaim := { program := "ytbdccgodamkljaa", sum := "9d7f9f346f9b4a57adbdcbecda7d022b90d824d3d1136b8bf462a51f31d612d8", func := "loop.example/g00877/laws.FnExactIsCircuit", spec := "fnExactIsCircuit", unfollowed := true, recurses := true, apart := false, narrowed := true }
def FnExactIsCircuitUptoSaid : Prop := fnExactIsCircuitUptoRow.holds Try.pinned (OpenSpec.upto fnExactIsCircuitSpec)

/-- 'laws.FnExactIsArith', WHERE WHAT IT READS IS OF BULK AT MOST 1048576: true; the input reads as it did. -/
def fnExactIsArithUptoRow : OpenClaim := { program := "ytbdccgodamkljaa", sum := "9d7f9f346f9b4a57adbdcbecda7d022b90d824d3d1136b8bf462a51f31d612d8", func := "loop.example/g00877/laws.FnExactIsArith", spec := "fnExactIsArith", unfollowed := true, recurses := true, apart := false, narrowed := true }
def FnExactIsArithUptoSaid : Prop := fnExactIsArithUptoRow.holds Try.pinned (OpenSpec.upto fnExactIsArithSpec)

/-- 'laws.FnExactCountCircuit', WHERE WHAT IT READS IS OF BULK AT MOST 1048576: true; the input reads as it did. -/
def fnExactCountCircuitUptoRow : OpenClaim := { program := "ytbdccgodamkljaa", sum := "9d7f9f346f9b4a57adbdcbecda7d022b90d824d3d1136b8bf462a51f31d612d8", func := "loop.example/g00877/laws.FnExactCountCircuit", spec := "fnExactCountCircuit", unfollowed := true, recurses := true, apart := false, narrowed := true }
def FnExactCountCircuitUptoSaid : Prop := fnExactCountCircuitUptoRow.holds Try.pinned (OpenSpec.upto fnExactCountCircuitSpec)

/-- 'laws.FnExactConstantCircuit', WHERE WHAT IT READS IS OF BULK AT MOST 1048576: true; the input reads as it did. -/
def fnExactConstantCircuitUptoRow : OpenClaim := { program := "ytbdccgodamkljaa", sum := "9d7f9f346f9b4a57adbdcbecda7d022b90d824d3d1136b8bf462a51f31d612d8", func := "loop.example/g00877/laws.FnExactConstantCircuit", spec := "fnExactConstantCircuit", unfollowed := true, recurses := true, apart := false, narrowed := true }
def FnExactConstantCircuitUptoSaid : Prop := fnExactConstantCircuitUptoRow.holds Try.pinned (OpenSpec.upto fnExactConstantCircuitSpec)

/-- 'laws.FnExactCountGates', WHERE WHAT IT READS IS OF BULK AT MOST 1048576: true; the input reads as it did. -/
def fnExactCountGatesUptoRow : OpenClaim := { program := "ytbdccgodamkljaa", sum := "9d7f9f346f9b4a57adbdcbecda7d022b90d824d3d1136b8bf462a51f31d612d8", func := "loop.example/g00877/laws.FnExactCountGates", spec := "fnExactCountGates", unfollowed := true, recurses := true, apart := false, narrowed := true }
def FnExactCountGatesUptoSaid : Prop := fnExactCountGatesUptoRow.holds Try.pinned (OpenSpec.upto fnExactCountGatesSpec)

/-- 'laws.FnExactDepthOf', WHERE WHAT IT READS IS OF BULK AT MOST 1048576: true; the input reads as it did. -/
def fnExactDepthOfUptoRow : OpenClaim := { program := "ytbdccgodamkljaa", sum := "9d7f9f346f9b4a57adbdcbecda7d022b90d824d3d1136b8bf462a51f31d612d8", func := "loop.example/g00877/laws.FnExactDepthOf", spec := "fnExactDepthOf", unfollowed := true, recurses := true, apart := false, narrowed := true }
def FnExactDepthOfUptoSaid : Prop := fnExactDepthOfUptoRow.holds Try.pinned (OpenSpec.upto fnExactDepthOfSpec)

/-- 'laws.FnExactCountArith', WHERE WHAT IT READS IS OF BULK AT MOST 1048576: true; the input reads as it did. -/
def fnExactCountArithUptoRow : OpenClaim := { program := "ytbdccgodamkljaa", sum := "9d7f9f346f9b4a57adbdcbecda7d022b90d824d3d1136b8bf462a51f31d612d8", func := "loop.example/g00877/laws.FnExactCountArith", spec := "fnExactCountArith", unfollowed := true, recurses := true, apart := false, narrowed := true }
def FnExactCountArithUptoSaid : Prop := fnExactCountArithUptoRow.holds Try.pinned (OpenSpec.upto fnExactCountArithSpec)

/-- 'laws.FnExactProductDepth', WHERE WHAT IT READS IS OF BULK AT MOST 1048576: true; the input reads as it did. -/
def fnExactProductDepthUptoRow : OpenClaim := { program := "ytbdccgodamkljaa", sum := "9d7f9f346f9b4a57adbdcbecda7d022b90d824d3d1136b8bf462a51f31d612d8", func := "loop.example/g00877/laws.FnExactProductDepth", spec := "fnExactProductDepth", unfollowed := true, recurses := true, apart := false, narrowed := true }
def FnExactProductDepthUptoSaid : Prop := fnExactProductDepthUptoRow.holds Try.pinned (OpenSpec.upto fnExactProductDepthSpec)

/-- 'laws.FnExactWireValues', WHERE WHAT IT READS IS OF BULK AT MOST 1048576: true; the input reads as it did. -/
def fnExactWireValuesUptoRow : OpenClaim := { program := "ytbdccgodamkljaa", sum := "9d7f9f346f9b4a57adbdcbecda7d022b90d824d3d1136b8bf462a51f31d612d8", func := "loop.example/g00877/laws.FnExactWireValues", spec := "fnExactWireValues", unfollowed := true, recurses := true, apart := false, narrowed := true }
def FnExactWireValuesUptoSaid : Prop := fnExactWireValuesUptoRow.holds Try.pinned (OpenSpec.upto fnExactWireValuesSpec)

/-- 'laws.FnExactRunWith', WHERE WHAT IT READS IS OF BULK AT MOST 1048576: true; the input reads as it did. -/
def fnExactRunWithUptoRow : OpenClaim := { program := "ytbdccgodamkljaa", sum := "9d7f9f346f9b4a57adbdcbecda7d022b90d824d3d1136b8bf462a51f31d612d8", func := "loop.example/g00877/laws.FnExactRunWith", spec := "fnExactRunWith", unfollowed := true, recurses := true, apart := false, narrowed := true }
def FnExactRunWithUptoSaid : Prop := fnExactRunWithUptoRow.holds Try.pinned (OpenSpec.upto fnExactRunWithSpec)

/-- 'laws.FnExactUsedWires', WHERE WHAT IT READS IS OF BULK AT MOST 1048576: true; the input reads as it did. -/
def fnExactUsedWiresUptoRow : OpenClaim := { program := "ytbdccgodamkljaa", sum := "9d7f9f346f9b4a57adbdcbecda7d022b90d824d3d1136b8bf462a51f31d612d8", func := "loop.example/g00877/laws.FnExactUsedWires", spec := "fnExactUsedWires", unfollowed := true, recurses := true, apart := false, narrowed := true }
def FnExactUsedWiresUptoSaid : Prop := fnExactUsedWiresUptoRow.holds Try.pinned (OpenSpec.upto fnExactUsedWiresSpec)

/-- 'laws.FnExactEvalCircuit', WHERE WHAT IT READS IS OF BULK AT MOST 1048576: true; the input reads as it did. -/
def fnExactEvalCircuitUptoRow : OpenClaim := { program := "ytbdccgodamkljaa", sum := "9d7f9f346f9b4a57adbdcbecda7d022b90d824d3d1136b8bf462a51f31d612d8", func := "loop.example/g00877/laws.FnExactEvalCircuit", spec := "fnExactEvalCircuit", unfollowed := true, recurses := true, apart := false, narrowed := true }
def FnExactEvalCircuitUptoSaid : Prop := fnExactEvalCircuitUptoRow.holds Try.pinned (OpenSpec.upto fnExactEvalCircuitSpec)

end Rows
end Go.Proofs.Ytbdccgodamkljaa
