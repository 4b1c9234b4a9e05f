/-
  No cell of these rows narrows 'for every input' (looked for: loops, veiled, ifaces, maps, wideKeys, modest, calm, conditions, laid).
  DERIVED. THE GIVEN ROWS OF THIS SEAT. 4 by the template 'for every input the law returns true; each argument reads behind the call as it read before'; 0 by the template 'total and deterministic' (their statements: YtglehpmaniabbaaTotals.lean).
  GIVEN WITH THE SEED: the statements are not yours to turn. If you find one false, say at which input.
  Laid BY PROGRAM, IN A SANDBOX (cutbox-rows.mjs): the forced cells as the released guide's own fill.sh prints them over the translation 2a66b056f3852c16… (all of the seat's roots in one cut). By AI agents, Wed Nov 11 2026. No macro, syntax, notation, axiom, sorry.
-/
import Derived.Test.YtglehpmaniabbaaChecked
import GoSem.Claim
import GoSem.ClaimJoined
import GoSem.ClaimMapViews
import Derived.JoinedTies
import Derived.KernelRfl
namespace Go.Proofs.Ytglehpmaniabbaa
/- THE CELL 'sum', in the pinned program and in every row, IS THE sha256 OF THE DUMP (.gsa) THAT YtglehpmaniabbaaProg.lean LOADS. Nothing in Lean hashes anything: it is a label: what it is worth is what the hold of that sum in a sandbox is worth. -/
noncomputable def Try.pinned : Pinned := { name := "ytglehpmaniabbaa", sum := "2a66b056f3852c16d649609a3d09fbd607b7a4ceaa2b41b35c6752449047050f", checked := Try.checked }
namespace Rows
def none {H : Type} : Left H := { results := [], args := [] }

/-- 'laws.FnExactTrimProgram': WHATEVER THE INPUT: true; the input reads as it did. -/
def fnExactTrimProgramSpec : ChangeSpec := { name := "fnExactTrimProgram", fn := fun _ => fun
  | [d] => { results := [.lit (.bool true)], args := [d] }
  | _ => none }
def fnExactTrimProgramRow : OpenClaim := { program := "ytglehpmaniabbaa", sum := "2a66b056f3852c16d649609a3d09fbd607b7a4ceaa2b41b35c6752449047050f", func := "loop.example/g00877/laws.FnExactTrimProgram", spec := "fnExactTrimProgram", inPlace := ["internal/bytealg.IndexByteString", "internal/bytealg.IndexString"], unfollowed := true, recurses := true, named := ["internal/bytealg.MaxLen"], apart := false }
def FnExactTrimProgramSaid : Prop := fnExactTrimProgramRow.holds Try.pinned (OpenSpec.ofChange fnExactTrimProgramSpec)

/-- ITS FALSE NEIGHBOUR: 'it returns false'. Refute it at one input. -/
def fnExactTrimProgramWrong : ChangeSpec := { name := "fnExactTrimProgram", fn := fun _ => fun
  | [d] => { results := [.lit (.bool false)], args := [d] }
  | _ => none }
def FnExactTrimProgramWrongFalsely : Prop := fnExactTrimProgramRow.holds Try.pinned (OpenSpec.ofChange fnExactTrimProgramWrong)

/-- 'laws.FnExactValuesIn': WHATEVER THE INPUT: true; the input reads as it did. -/
def fnExactValuesInSpec : ChangeSpec := { name := "fnExactValuesIn", fn := fun _ => fun
  | [d1, d2, d3] => { results := [.lit (.bool true)], args := [d1, d2, d3] }
  | _ => none }
def fnExactValuesInRow : OpenClaim := { program := "ytglehpmaniabbaa", sum := "2a66b056f3852c16d649609a3d09fbd607b7a4ceaa2b41b35c6752449047050f", func := "loop.example/g00877/laws.FnExactValuesIn", spec := "fnExactValuesIn", inPlace := ["internal/bytealg.IndexByteString", "internal/bytealg.IndexString"], unfollowed := true, recurses := true, named := ["internal/bytealg.MaxLen"], apart := false }
def FnExactValuesInSaid : Prop := fnExactValuesInRow.holds Try.pinned (OpenSpec.ofChange fnExactValuesInSpec)

/-- ITS FALSE NEIGHBOUR: 'it returns false'. Refute it at one input. -/
def fnExactValuesInWrong : ChangeSpec := { name := "fnExactValuesIn", fn := fun _ => fun
  | [d1, d2, d3] => { results := [.lit (.bool false)], args := [d1, d2, d3] }
  | _ => none }
def FnExactValuesInWrongFalsely : Prop := fnExactValuesInRow.holds Try.pinned (OpenSpec.ofChange fnExactValuesInWrong)

/-- 'laws.FnExactRunProgram': WHATEVER THE INPUT: true; the input reads as it did. -/
def fnExactRunProgramSpec : ChangeSpec := { name := "fnExactRunProgram", fn := fun _ => fun
  | [d1, d2, d3] => { results := [.lit (.bool true)], args := [d1, d2, d3] }
  | _ => none }
def fnExactRunProgramRow : OpenClaim := { program := "ytglehpmaniabbaa", sum := "2a66b056f3852c16d649609a3d09fbd607b7a4ceaa2b41b35c6752449047050f", func := "loop.example/g00877/laws.FnExactRunProgram", spec := "fnExactRunProgram", inPlace := ["internal/bytealg.IndexByteString", "internal/bytealg.IndexString"], unfollowed := true, recurses := true, named := ["internal/bytealg.MaxLen"], apart := false }
def FnExactRunProgramSaid : Prop := fnExactRunProgramRow.holds Try.pinned (OpenSpec.ofChange fnExactRunProgramSpec)

/-- ITS FALSE NEIGHBOUR: 'it returns false'. Refute it at one input. -/
def fnExactRunProgramWrong : ChangeSpec := { name := "fnExactRunProgram", fn := fun _ => fun
  | [d1, d2, d3] => { results := [.lit (.bool false)], args := [d1, d2, d3] }
  | _ => none }
def FnExactRunProgramWrongFalsely : Prop := fnExactRunProgramRow.holds Try.pinned (OpenSpec.ofChange fnExactRunProgramWrong)

/-- 'laws.FnTrims': WHATEVER THE INPUT: true; the input reads as it did. -/
def fnTrimsSpec : ChangeSpec := { name := "fnTrims", fn := fun _ => fun
  | [d1, d2] => { results := [.lit (.bool true)], args := [d1, d2] }
  | _ => none }
def fnTrimsRow : OpenClaim := { program := "ytglehpmaniabbaa", sum := "2a66b056f3852c16d649609a3d09fbd607b7a4ceaa2b41b35c6752449047050f", func := "loop.example/g00877/laws.FnTrims", spec := "fnTrims", inPlace := ["internal/bytealg.IndexByteString", "internal/bytealg.IndexString"], unfollowed := true, recurses := true, named := ["internal/bytealg.MaxLen"], apart := false }
def FnTrimsSaid : Prop := fnTrimsRow.holds Try.pinned (OpenSpec.ofChange fnTrimsSpec)

/-- ITS FALSE NEIGHBOUR: 'it returns false'. Refute it at one input. -/
def fnTrimsWrong : ChangeSpec := { name := "fnTrims", fn := fun _ => fun
  | [d1, d2] => { results := [.lit (.bool false)], args := [d1, d2] }
  | _ => none }
def FnTrimsWrongFalsely : Prop := fnTrimsRow.holds Try.pinned (OpenSpec.ofChange fnTrimsWrong)

/- THE SECOND FORM. 'bulk': how many values and letters a reading holds, each counted each time it is reached (what is shared counts as often as it is met; a slice's spare places count too). A statement '..UptoSaid' is the law's where the arguments, and the package variables that the reading takes, are together of bulk at most 1048576: NARROWER than '..Said'. Prove '..Said' where nothing that the law and all that it calls make is longer than what came in: it says more and counts as full. Else prove '..UptoSaid'. A law counts once. -/
mutual
def uptoBulk {H : Type} : DataW H → Nat
  | .lit (.string bytes) => bytes.length + 1
  | .lit _ => 1
  | .nil => 1
  | .ptr d => uptoBulk d + 1
  | .slice elems spare => uptoBulkAll elems + uptoBulkAll spare + 1
  | .agg parts => uptoBulkAll parts + 1
  | .iface _ d => uptoBulk d + 1
  | .map entries => uptoBulkEntries entries + 1
  | .held _ => 1
def uptoBulkAll {H : Type} : List (DataW H) → Nat
  | [] => 0
  | d :: r => uptoBulk d + uptoBulkAll r
def uptoBulkEntries {H : Type} : List (Lit × DataW H) → Nat
  | [] => 0
  | x :: r => uptoBulkEntry x + uptoBulkEntries r
def uptoBulkEntry {H : Type} : Lit × DataW H → Nat
  | (.string bytes, d) => bytes.length + uptoBulk d + 1
  | (_, d) => uptoBulk d + 1
 end
def uptoSmall : (H : Type) → List (DataW H) → Bool := fun _ ds => decide (uptoBulkAll ds ≤ 1048576)
def OpenSpec.upto (s : _root_.Go.ChangeSpec) : _root_.Go.OpenSpec := { _root_.Go.OpenSpec.ofChange s with cond := some uptoSmall }

/-- 'laws.FnExactTrimProgram', WHERE WHAT IT READS IS OF BULK AT MOST 1048576: true; the input reads as it did. -/
def fnExactTrimProgramUptoRow : OpenClaim := { program := "ytglehpmaniabbaa", sum := "2a66b056f3852c16d649609a3d09fbd607b7a4ceaa2b41b35c6752449047050f", func := "loop.example/g00877/laws.FnExactTrimProgram", spec := "fnExactTrimProgram", inPlace := ["internal/bytealg.IndexByteString", "internal/bytealg.IndexString"], unfollowed := true, recurses := true, named := ["internal/bytealg.MaxLen"], apart := false, narrowed := true }
def FnExactTrimProgramUptoSaid : Prop := fnExactTrimProgramUptoRow.holds Try.pinned (OpenSpec.upto fnExactTrimProgramSpec)

/-- 'laws.FnExactValuesIn', WHERE WHAT IT READS IS OF BULK AT MOST 1048576: true; the input reads as it did. -/
def fnExactValuesInUptoRow : OpenClaim := { program := "ytglehpmaniabbaa", sum := "2a66b056f3852c16d649609a3d09fbd607b7a4ceaa2b41b35c6752449047050f", func := "loop.example/g00877/laws.FnExactValuesIn", spec := "fnExactValuesIn", inPlace := ["internal/bytealg.IndexByteString", "internal/bytealg.IndexString"], unfollowed := true, recurses := true, named := ["internal/bytealg.MaxLen"], apart := false, narrowed := true }
def FnExactValuesInUptoSaid : Prop := fnExactValuesInUptoRow.holds Try.pinned (OpenSpec.upto fnExactValuesInSpec)

/-- 'laws.FnExactRunProgram', WHERE WHAT IT READS IS OF BULK AT MOST 1048576: true; the input reads as it did. -/
def fnExactRunProgramUptoRow : OpenClaim := { program := "ytglehpmaniabbaa", sum := "2a66b056f3852c16d649609a3d09fbd607b7a4ceaa2b41b35c6752449047050f", func := "loop.example/g00877/laws.FnExactRunProgram", spec := "fnExactRunProgram", inPlace := ["internal/bytealg.IndexByteString", "internal/bytealg.IndexString"], unfollowed := true, recurses := true, named := ["internal/bytealg.MaxLen"], apart := false, narrowed := true }
def FnExactRunProgramUptoSaid : Prop := fnExactRunProgramUptoRow.holds Try.pinned (OpenSpec.upto fnExactRunProgramSpec)

/-- 'laws.FnTrims', WHERE WHAT IT READS IS OF BULK AT MOST 1048576: true; the input reads as it did. -/
def fnTrimsUptoRow : OpenClaim := { program := "ytglehpmaniabbaa", sum := "2a66b056f3852c16d649609a3d09fbd607b7a4ceaa2b41b35c6752449047050f", func := "loop.example/g00877/laws.FnTrims", spec := "fnTrims", inPlace := ["internal/bytealg.IndexByteString", "internal/bytealg.IndexString"], unfollowed := true, recurses := true, named := ["internal/bytealg.MaxLen"], apart := false, narrowed := true }
def FnTrimsUptoSaid : Prop := fnTrimsUptoRow.holds Try.pinned (OpenSpec.upto fnTrimsSpec)

end Rows
end Go.Proofs.Ytglehpmaniabbaa
