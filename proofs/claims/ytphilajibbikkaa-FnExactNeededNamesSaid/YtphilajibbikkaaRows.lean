/-
  No cell of these rows narrows 'for every input' (looked for: loops, veiled, ifaces, maps, wideKeys, modest, calm, conditions, laid).
  DERIVED. THE GIVEN ROWS OF THIS SEAT. 6 by the template 'for every input the law returns true; each argument reads behind the call as it read before'; 0 by the template 'total and deterministic' (their statements: YtphilajibbikkaaTotals.lean).
  GIVEN WITH THE SEED: the statements are not yours to turn. If you find one false, say at which input.
  Laid BY PROGRAM, IN A SANDBOX (cutbox-rows.mjs): the forced cells as the released guide's own fill.sh prints them over the translation 80187392dd3337e2… (all of the seat's roots in one cut). By AI agents, Wed Nov 11 2026. No macro, syntax, notation, axiom, sorry.
-/
import Derived.Test.YtphilajibbikkaaChecked
import GoSem.Claim
import GoSem.ClaimJoined
import GoSem.ClaimMapViews
import Derived.JoinedTies
import Derived.KernelRfl
namespace Go.Proofs.Ytphilajibbikkaa
/- THE CELL 'sum', in the pinned program and in every row, IS THE sha256 OF THE DUMP (.gsa) THAT YtphilajibbikkaaProg.lean LOADS. Nothing in Lean hashes anything: it is a label: what it is worth is what the hold of that sum in a sandbox is worth. -/
noncomputable def Try.pinned : Pinned := { name := "ytphilajibbikkaa", sum := "80187392dd3337e2eb7a639b3eee41b4729c44de8b508cd87d4c4fb85638eef1", checked := Try.checked }
namespace Rows
def none {H : Type} : Left H := { results := [], args := [] }

/-- 'laws.FnExactIsProgram': WHATEVER THE INPUT: true; the input reads as it did. -/
def fnExactIsProgramSpec : ChangeSpec := { name := "fnExactIsProgram", fn := fun _ => fun
  | [d] => { results := [.lit (.bool true)], args := [d] }
  | _ => none }
def fnExactIsProgramRow : OpenClaim := { program := "ytphilajibbikkaa", sum := "80187392dd3337e2eb7a639b3eee41b4729c44de8b508cd87d4c4fb85638eef1", func := "loop.example/g00877/laws.FnExactIsProgram", spec := "fnExactIsProgram", inPlace := ["internal/bytealg.IndexByteString", "internal/bytealg.IndexString"], unfollowed := true, recurses := true, named := ["internal/bytealg.MaxLen"], apart := false }
def FnExactIsProgramSaid : Prop := fnExactIsProgramRow.holds Try.pinned (OpenSpec.ofChange fnExactIsProgramSpec)

/-- ITS FALSE NEIGHBOUR: 'it returns false'. Refute it at one input. -/
def fnExactIsProgramWrong : ChangeSpec := { name := "fnExactIsProgram", fn := fun _ => fun
  | [d] => { results := [.lit (.bool false)], args := [d] }
  | _ => none }
def FnExactIsProgramWrongFalsely : Prop := fnExactIsProgramRow.holds Try.pinned (OpenSpec.ofChange fnExactIsProgramWrong)

/-- 'laws.FnExactWidthOfName': WHATEVER THE INPUT: true; the input reads as it did. -/
def fnExactWidthOfNameSpec : ChangeSpec := { name := "fnExactWidthOfName", fn := fun _ => fun
  | [d1, d2] => { results := [.lit (.bool true)], args := [d1, d2] }
  | _ => none }
def fnExactWidthOfNameRow : OpenClaim := { program := "ytphilajibbikkaa", sum := "80187392dd3337e2eb7a639b3eee41b4729c44de8b508cd87d4c4fb85638eef1", func := "loop.example/g00877/laws.FnExactWidthOfName", spec := "fnExactWidthOfName", inPlace := ["internal/bytealg.IndexByteString", "internal/bytealg.IndexString"], unfollowed := true, recurses := true, named := ["internal/bytealg.MaxLen"], apart := false }
def FnExactWidthOfNameSaid : Prop := fnExactWidthOfNameRow.holds Try.pinned (OpenSpec.ofChange fnExactWidthOfNameSpec)

/-- ITS FALSE NEIGHBOUR: 'it returns false'. Refute it at one input. -/
def fnExactWidthOfNameWrong : ChangeSpec := { name := "fnExactWidthOfName", fn := fun _ => fun
  | [d1, d2] => { results := [.lit (.bool false)], args := [d1, d2] }
  | _ => none }
def FnExactWidthOfNameWrongFalsely : Prop := fnExactWidthOfNameRow.holds Try.pinned (OpenSpec.ofChange fnExactWidthOfNameWrong)

/-- 'laws.FnExactOutWidths': WHATEVER THE INPUT: true; the input reads as it did. -/
def fnExactOutWidthsSpec : ChangeSpec := { name := "fnExactOutWidths", fn := fun _ => fun
  | [d] => { results := [.lit (.bool true)], args := [d] }
  | _ => none }
def fnExactOutWidthsRow : OpenClaim := { program := "ytphilajibbikkaa", sum := "80187392dd3337e2eb7a639b3eee41b4729c44de8b508cd87d4c4fb85638eef1", func := "loop.example/g00877/laws.FnExactOutWidths", spec := "fnExactOutWidths", inPlace := ["internal/bytealg.IndexByteString", "internal/bytealg.IndexString"], unfollowed := true, recurses := true, named := ["internal/bytealg.MaxLen"], apart := false }
def FnExactOutWidthsSaid : Prop := fnExactOutWidthsRow.holds Try.pinned (OpenSpec.ofChange fnExactOutWidthsSpec)

/-- ITS FALSE NEIGHBOUR: 'it returns false'. Refute it at one input. -/
def fnExactOutWidthsWrong : ChangeSpec := { name := "fnExactOutWidths", fn := fun _ => fun
  | [d] => { results := [.lit (.bool false)], args := [d] }
  | _ => none }
def FnExactOutWidthsWrongFalsely : Prop := fnExactOutWidthsRow.holds Try.pinned (OpenSpec.ofChange fnExactOutWidthsWrong)

/-- 'laws.FnExactInputWidths': WHATEVER THE INPUT: true; the input reads as it did. -/
def fnExactInputWidthsSpec : ChangeSpec := { name := "fnExactInputWidths", fn := fun _ => fun
  | [d1, d2] => { results := [.lit (.bool true)], args := [d1, d2] }
  | _ => none }
def fnExactInputWidthsRow : OpenClaim := { program := "ytphilajibbikkaa", sum := "80187392dd3337e2eb7a639b3eee41b4729c44de8b508cd87d4c4fb85638eef1", func := "loop.example/g00877/laws.FnExactInputWidths", spec := "fnExactInputWidths", inPlace := ["internal/bytealg.IndexByteString", "internal/bytealg.IndexString"], unfollowed := true, recurses := true, named := ["internal/bytealg.MaxLen"], apart := false }
def FnExactInputWidthsSaid : Prop := fnExactInputWidthsRow.holds Try.pinned (OpenSpec.ofChange fnExactInputWidthsSpec)

/-- ITS FALSE NEIGHBOUR: 'it returns false'. Refute it at one input. -/
def fnExactInputWidthsWrong : ChangeSpec := { name := "fnExactInputWidths", fn := fun _ => fun
  | [d1, d2] => { results := [.lit (.bool false)], args := [d1, d2] }
  | _ => none }
def FnExactInputWidthsWrongFalsely : Prop := fnExactInputWidthsRow.holds Try.pinned (OpenSpec.ofChange fnExactInputWidthsWrong)

/-- 'laws.FnExactNeededNames': WHATEVER THE INPUT: true; the input reads as it did. -/
def fnExactNeededNamesSpec : ChangeSpec := { name := "fnExactNeededNames", fn := fun _ => fun
  | [d] => { results := [.lit (.bool true)], args := [d] }
  | _ => none }
def fnExactNeededNamesRow : OpenClaim := { program := "ytphilajibbikkaa", sum := "80187392dd3337e2eb7a639b3eee41b4729c44de8b508cd87d4c4fb85638eef1", func := "loop.example/g00877/laws.FnExactNeededNames", spec := "fnExactNeededNames", inPlace := ["internal/bytealg.IndexByteString", "internal/bytealg.IndexString"], unfollowed := true, recurses := true, named := ["internal/bytealg.MaxLen"], apart := false }
def FnExactNeededNamesSaid : Prop := fnExactNeededNamesRow.holds Try.pinned (OpenSpec.ofChange fnExactNeededNamesSpec)

/-- ITS FALSE NEIGHBOUR: 'it returns false'. Refute it at one input. -/
def fnExactNeededNamesWrong : ChangeSpec := { name := "fnExactNeededNames", fn := fun _ => fun
  | [d] => { results := [.lit (.bool false)], args := [d] }
  | _ => none }
def FnExactNeededNamesWrongFalsely : Prop := fnExactNeededNamesRow.holds Try.pinned (OpenSpec.ofChange fnExactNeededNamesWrong)

/-- 'laws.FnExactCountOps': WHATEVER THE INPUT: true; the input reads as it did. -/
def fnExactCountOpsSpec : ChangeSpec := { name := "fnExactCountOps", fn := fun _ => fun
  | [d] => { results := [.lit (.bool true)], args := [d] }
  | _ => none }
def fnExactCountOpsRow : OpenClaim := { program := "ytphilajibbikkaa", sum := "80187392dd3337e2eb7a639b3eee41b4729c44de8b508cd87d4c4fb85638eef1", func := "loop.example/g00877/laws.FnExactCountOps", spec := "fnExactCountOps", inPlace := ["internal/bytealg.IndexByteString", "internal/bytealg.IndexString"], unfollowed := true, recurses := true, named := ["internal/bytealg.MaxLen"], apart := false }
def FnExactCountOpsSaid : Prop := fnExactCountOpsRow.holds Try.pinned (OpenSpec.ofChange fnExactCountOpsSpec)

/-- ITS FALSE NEIGHBOUR: 'it returns false'. Refute it at one input. -/
def fnExactCountOpsWrong : ChangeSpec := { name := "fnExactCountOps", fn := fun _ => fun
  | [d] => { results := [.lit (.bool false)], args := [d] }
  | _ => none }
def FnExactCountOpsWrongFalsely : Prop := fnExactCountOpsRow.holds Try.pinned (OpenSpec.ofChange fnExactCountOpsWrong)

/- THE SECOND FORM. 'bulk': how many values and letters a reading holds, each counted each time it is reached (what is shared counts as often as it is met; a slice's spare places count too). A statement '..UptoSaid' is the law's where the arguments, and the package variables that the reading takes, are together of bulk at most 1048576: NARROWER than '..Said'. Prove '..Said' where nothing that the law and all that it calls make is longer than what came in: it says more and counts as full. Else prove '..UptoSaid'. A law counts once. -/
mutual
def uptoBulk {H : Type} : DataW H → Nat
  | .lit (.string bytes) => bytes.length + 1
  | .lit _ => 1
  | .nil => 1
  | .ptr d => uptoBulk d + 1
  | .slice elems spare => uptoBulkAll elems + uptoBulkAll spare + 1
  | .agg parts => uptoBulkAll parts + 1
  | .iface _ d => uptoBulk d + 1
  | .map entries => uptoBulkEntries entries + 1
  | .held _ => 1
def uptoBulkAll {H : Type} : List (DataW H) → Nat
  | [] => 0
  | d :: r => uptoBulk d + uptoBulkAll r
def uptoBulkEntries {H : Type} : List (Lit × DataW H) → Nat
  | [] => 0
  | x :: r => uptoBulkEntry x + uptoBulkEntries r
def uptoBulkEntry {H : Type} : Lit × DataW H → Nat
  | (.string bytes, d) => bytes.length + uptoBulk d + 1
  | (_, d) => uptoBulk d + 1
 end
def uptoSmall : (H : Type) → List (DataW H) → Bool := fun _ ds => decide (uptoBulkAll ds ≤ 1048576)
def OpenSpec.upto (s : _root_.Go.ChangeSpec) : _root_.Go.OpenSpec := { _root_.Go.OpenSpec.ofChange s with cond := some uptoSmall }

/-- 'laws.FnExactIsProgram', WHERE WHAT IT READS IS OF BULK AT MOST 1048576: true; the input reads as it did. -/
def fnExactIsProgramUptoRow : OpenClaim := { program := "ytphilajibbikkaa", sum := "80187392dd3337e2eb7a639b3eee41b4729c44de8b508cd87d4c4fb85638eef1", func := "loop.example/g00877/laws.FnExactIsProgram", spec := "fnExactIsProgram", inPlace := ["internal/bytealg.IndexByteString", "internal/bytealg.IndexString"], unfollowed := true, recurses := true, named := ["internal/bytealg.MaxLen"], apart := false, narrowed := true }
def FnExactIsProgramUptoSaid : Prop := fnExactIsProgramUptoRow.holds Try.pinned (OpenSpec.upto fnExactIsProgramSpec)

/-- 'laws.FnExactWidthOfName', WHERE WHAT IT READS IS OF BULK AT MOST 1048576: true; the input reads as it did. -/
def fnExactWidthOfNameUptoRow : OpenClaim := { program := "ytphilajibbikkaa", sum := "80187392dd3337e2eb7a639b3eee41b4729c44de8b508cd87d4c4fb85638eef1", func := "loop.example/g00877/laws.FnExactWidthOfName", spec := "fnExactWidthOfName", inPlace := ["internal/bytealg.IndexByteString", "internal/bytealg.IndexString"], unfollowed := true, recurses := true, named := ["internal/bytealg.MaxLen"], apart := false, narrowed := true }
def FnExactWidthOfNameUptoSaid : Prop := fnExactWidthOfNameUptoRow.holds Try.pinned (OpenSpec.upto fnExactWidthOfNameSpec)

/-- 'laws.FnExactOutWidths', WHERE WHAT IT READS IS OF BULK AT MOST 1048576: true; the input reads as it did. -/
def fnExactOutWidthsUptoRow : OpenClaim := { program := "ytphilajibbikkaa", sum := "80187392dd3337e2eb7a639b3eee41b4729c44de8b508cd87d4c4fb85638eef1", func := "loop.example/g00877/laws.FnExactOutWidths", spec := "fnExactOutWidths", inPlace := ["internal/bytealg.IndexByteString", "internal/bytealg.IndexString"], unfollowed := true, recurses := true, named := ["internal/bytealg.MaxLen"], apart := false, narrowed := true }
def FnExactOutWidthsUptoSaid : Prop := fnExactOutWidthsUptoRow.holds Try.pinned (OpenSpec.upto fnExactOutWidthsSpec)

/-- 'laws.FnExactInputWidths', WHERE WHAT IT READS IS OF BULK AT MOST 1048576: true; the input reads as it did. -/
def fnExactInputWidthsUptoRow : OpenClaim := { program := "ytphilajibbikkaa", sum := "80187392dd3337e2eb7a639b3eee41b4729c44de8b508cd87d4c4fb85638eef1", func := "loop.example/g00877/laws.FnExactInputWidths", spec := "fnExactInputWidths", inPlace := ["internal/bytealg.IndexByteString", "internal/bytealg.IndexString"], unfollowed := true, recurses := true, named := ["internal/bytealg.MaxLen"], apart := false, narrowed := true }
def FnExactInputWidthsUptoSaid : Prop := fnExactInputWidthsUptoRow.holds Try.pinned (OpenSpec.upto fnExactInputWidthsSpec)

/-- 'laws.FnExactNeededNames', WHERE WHAT IT READS IS OF BULK AT MOST 1048576: true; the input reads as it did. -/
def fnExactNeededNamesUptoRow : OpenClaim := { program := "ytphilajibbikkaa", sum := "80187392dd3337e2eb7a639b3eee41b4729c44de8b508cd87d4c4fb85638eef1", func := "loop.example/g00877/laws.FnExactNeededNames", spec := "fnExactNeededNames", inPlace := ["internal/bytealg.IndexByteString", "internal/bytealg.IndexString"], unfollowed := true, recurses := true, named := ["internal/bytealg.MaxLen"], apart := false, narrowed := true }
def FnExactNeededNamesUptoSaid : Prop := fnExactNeededNamesUptoRow.holds Try.pinned (OpenSpec.upto fnExactNeededNamesSpec)

/-- 'laws.FnExactCountOps', WHERE WHAT IT READS IS OF BULK AT MOST 1048576: true; the input reads as it did. -/
def fnExactCountOpsUptoRow : OpenClaim := { program := "ytphilajibbikkaa", sum := "80187392dd3337e2eb7a639b3eee41b4729c44de8b508cd87d4c4fb85638eef1", func := "loop.example/g00877/laws.FnExactCountOps", spec := "fnExactCountOps", inPlace := ["internal/bytealg.IndexByteString", "internal/bytealg.IndexString"], unfollowed := true, recurses := true, named := ["internal/bytealg.MaxLen"], apart := false, narrowed := true }
def FnExactCountOpsUptoSaid : Prop := fnExactCountOpsUptoRow.holds Try.pinned (OpenSpec.upto fnExactCountOpsSpec)

end Rows
end Go.Proofs.Ytphilajibbikkaa
