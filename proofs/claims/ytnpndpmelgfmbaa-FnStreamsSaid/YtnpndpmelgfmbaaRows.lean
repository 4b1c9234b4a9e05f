/-
  No cell of these rows narrows 'for every input' (looked for: loops, veiled, ifaces, maps, wideKeys, modest, calm, conditions, laid).
  DERIVED. THE GIVEN ROWS OF THIS SEAT. 8 by the template 'for every input the law returns true; each argument reads behind the call as it read before'; 0 by the template 'total and deterministic' (their statements: YtnpndpmelgfmbaaTotals.lean).
  GIVEN WITH THE SEED: the statements are not yours to turn. If you find one false, say at which input.
  Laid BY PROGRAM, IN A SANDBOX (cutbox-rows.mjs): the forced cells as the released guide's own fill.sh prints them over the translation a0a85b0617050ce6… (all of the seat's roots in one cut). By AI agents, Wed Nov 11 2026. No macro, syntax, notation, axiom, sorry.
-/
import Derived.Test.YtnpndpmelgfmbaaChecked
import GoSem.Claim
import GoSem.ClaimJoined
import GoSem.ClaimMapViews
import Derived.JoinedTies
import Derived.KernelRfl
namespace Go.Proofs.Ytnpndpmelgfmbaa
/- THE CELL 'sum', in the pinned program and in every row, IS THE sha256 OF THE DUMP (.gsa) THAT YtnpndpmelgfmbaaProg.lean LOADS. Nothing in Lean hashes anything: it is a label: what it is worth is what the hold of that sum in a sandbox is worth. -/
noncomputable def Try.pinned : Pinned := { name := "ytnpndpmelgfmbaa", sum := "a0a85b0617050ce6317edc2714993f13d7e9491b07b58b558eff91666a1b06d4", checked := Try.checked }
namespace Rows
def none {H : Type} : Left H := { results := [], args := [] }

/-- 'laws.FnExactLayersOf': WHATEVER THE INPUT: true; the input reads as it did. -/
def fnExactLayersOfSpec : ChangeSpec := { name := "fnExactLayersOf", fn := fun _ => fun
  | [d1, d2] => { results := [.lit (.bool true)], args := [d1, d2] }
  | _ => none }
def fnExactLayersOfRow : OpenClaim := { program := "ytnpndpmelgfmbaa", sum := "a0a85b0617050ce6317edc2714993f13d7e9491b07b58b558eff91666a1b06d4", func := "loop.example/g00877/laws.FnExactLayersOf", spec := "fnExactLayersOf", unfollowed := true, recurses := true, apart := false }
def FnExactLayersOfSaid : Prop := fnExactLayersOfRow.holds Try.pinned (OpenSpec.ofChange fnExactLayersOfSpec)

/-- ITS FALSE NEIGHBOUR: 'it returns false'. Refute it at one input. -/
def fnExactLayersOfWrong : ChangeSpec := { name := "fnExactLayersOf", fn := fun _ => fun
  | [d1, d2] => { results := [.lit (.bool false)], args := [d1, d2] }
  | _ => none }
def FnExactLayersOfWrongFalsely : Prop := fnExactLayersOfRow.holds Try.pinned (OpenSpec.ofChange fnExactLayersOfWrong)

/-- 'laws.FnBits': WHATEVER THE INPUT: true; the input reads as it did. -/
def fnBitsSpec : ChangeSpec := { name := "fnBits", fn := fun _ => fun
  | [d1, d2] => { results := [.lit (.bool true)], args := [d1, d2] }
  | _ => none }
def fnBitsRow : OpenClaim := { program := "ytnpndpmelgfmbaa", sum := "a0a85b0617050ce6317edc2714993f13d7e9491b07b58b558eff91666a1b06d4", func := "loop.example/g00877/laws.FnBits", spec := "fnBits", unfollowed := true, recurses := true, apart := false }
def FnBitsSaid : Prop := fnBitsRow.holds Try.pinned (OpenSpec.ofChange fnBitsSpec)

/-- ITS FALSE NEIGHBOUR: 'it returns false'. Refute it at one input. -/
def fnBitsWrong : ChangeSpec := { name := "fnBits", fn := fun _ => fun
  | [d1, d2] => { results := [.lit (.bool false)], args := [d1, d2] }
  | _ => none }
def FnBitsWrongFalsely : Prop := fnBitsRow.holds Try.pinned (OpenSpec.ofChange fnBitsWrong)

/-- 'laws.FnExactDepthOf': WHATEVER THE INPUT: true; the input reads as it did. -/
def fnExactDepthOfSpec : ChangeSpec := { name := "fnExactDepthOf", fn := fun _ => fun
  | [d] => { results := [.lit (.bool true)], args := [d] }
  | _ => none }
def fnExactDepthOfRow : OpenClaim := { program := "ytnpndpmelgfmbaa", sum := "a0a85b0617050ce6317edc2714993f13d7e9491b07b58b558eff91666a1b06d4", func := "loop.example/g00877/laws.FnExactDepthOf", spec := "fnExactDepthOf", unfollowed := true, recurses := true, apart := false }
def FnExactDepthOfSaid : Prop := fnExactDepthOfRow.holds Try.pinned (OpenSpec.ofChange fnExactDepthOfSpec)

/-- ITS FALSE NEIGHBOUR: 'it returns false'. Refute it at one input. -/
def fnExactDepthOfWrong : ChangeSpec := { name := "fnExactDepthOf", fn := fun _ => fun
  | [d] => { results := [.lit (.bool false)], args := [d] }
  | _ => none }
def FnExactDepthOfWrongFalsely : Prop := fnExactDepthOfRow.holds Try.pinned (OpenSpec.ofChange fnExactDepthOfWrong)

/-- 'laws.FnBitTexts': WHATEVER THE INPUT: true; the input reads as it did. -/
def fnBitTextsSpec : ChangeSpec := { name := "fnBitTexts", fn := fun _ => fun
  | [d1, d2] => { results := [.lit (.bool true)], args := [d1, d2] }
  | _ => none }
def fnBitTextsRow : OpenClaim := { program := "ytnpndpmelgfmbaa", sum := "a0a85b0617050ce6317edc2714993f13d7e9491b07b58b558eff91666a1b06d4", func := "loop.example/g00877/laws.FnBitTexts", spec := "fnBitTexts", unfollowed := true, recurses := true, apart := false }
def FnBitTextsSaid : Prop := fnBitTextsRow.holds Try.pinned (OpenSpec.ofChange fnBitTextsSpec)

/-- ITS FALSE NEIGHBOUR: 'it returns false'. Refute it at one input. -/
def fnBitTextsWrong : ChangeSpec := { name := "fnBitTexts", fn := fun _ => fun
  | [d1, d2] => { results := [.lit (.bool false)], args := [d1, d2] }
  | _ => none }
def FnBitTextsWrongFalsely : Prop := fnBitTextsRow.holds Try.pinned (OpenSpec.ofChange fnBitTextsWrong)

/-- 'laws.FnStreams': WHATEVER THE INPUT: true; the input reads as it did. -/
def fnStreamsSpec : ChangeSpec := { name := "fnStreams", fn := fun _ => fun
  | [d1, d2] => { results := [.lit (.bool true)], args := [d1, d2] }
  | _ => none }
def fnStreamsRow : OpenClaim := { program := "ytnpndpmelgfmbaa", sum := "a0a85b0617050ce6317edc2714993f13d7e9491b07b58b558eff91666a1b06d4", func := "loop.example/g00877/laws.FnStreams", spec := "fnStreams", unfollowed := true, recurses := true, apart := false }
def FnStreamsSaid : Prop := fnStreamsRow.holds Try.pinned (OpenSpec.ofChange fnStreamsSpec)

/-- ITS FALSE NEIGHBOUR: 'it returns false'. Refute it at one input. -/
def fnStreamsWrong : ChangeSpec := { name := "fnStreams", fn := fun _ => fun
  | [d1, d2] => { results := [.lit (.bool false)], args := [d1, d2] }
  | _ => none }
def FnStreamsWrongFalsely : Prop := fnStreamsRow.holds Try.pinned (OpenSpec.ofChange fnStreamsWrong)

/-- 'laws.FnNetworks': WHATEVER THE INPUT: true; the input reads as it did. -/
def fnNetworksSpec : ChangeSpec := { name := "fnNetworks", fn := fun _ => fun
  | [d1, d2] => { results := [.lit (.bool true)], args := [d1, d2] }
  | _ => none }
def fnNetworksRow : OpenClaim := { program := "ytnpndpmelgfmbaa", sum := "a0a85b0617050ce6317edc2714993f13d7e9491b07b58b558eff91666a1b06d4", func := "loop.example/g00877/laws.FnNetworks", spec := "fnNetworks", unfollowed := true, recurses := true, apart := false }
def FnNetworksSaid : Prop := fnNetworksRow.holds Try.pinned (OpenSpec.ofChange fnNetworksSpec)

/-- ITS FALSE NEIGHBOUR: 'it returns false'. Refute it at one input. -/
def fnNetworksWrong : ChangeSpec := { name := "fnNetworks", fn := fun _ => fun
  | [d1, d2] => { results := [.lit (.bool false)], args := [d1, d2] }
  | _ => none }
def FnNetworksWrongFalsely : Prop := fnNetworksRow.holds Try.pinned (OpenSpec.ofChange fnNetworksWrong)

/-- 'laws.FnExactCountDigests': WHATEVER THE INPUT: true; the input reads as it did. -/
def fnExactCountDigestsSpec : ChangeSpec := { name := "fnExactCountDigests", fn := fun _ => fun
  | [d1, d2] => { results := [.lit (.bool true)], args := [d1, d2] }
  | _ => none }
def fnExactCountDigestsRow : OpenClaim := { program := "ytnpndpmelgfmbaa", sum := "a0a85b0617050ce6317edc2714993f13d7e9491b07b58b558eff91666a1b06d4", func := "loop.example/g00877/laws.FnExactCountDigests", spec := "fnExactCountDigests", recurses := true, apart := false }
def FnExactCountDigestsSaid : Prop := fnExactCountDigestsRow.holds Try.pinned (OpenSpec.ofChange fnExactCountDigestsSpec)

/-- ITS FALSE NEIGHBOUR: 'it returns false'. Refute it at one input. -/
def fnExactCountDigestsWrong : ChangeSpec := { name := "fnExactCountDigests", fn := fun _ => fun
  | [d1, d2] => { results := [.lit (.bool false)], args := [d1, d2] }
  | _ => none }
def FnExactCountDigestsWrongFalsely : Prop := fnExactCountDigestsRow.holds Try.pinned (OpenSpec.ofChange fnExactCountDigestsWrong)

/-- 'laws.FnDigests': WHATEVER THE INPUT: true; the input reads as it did. -/
def fnDigestsSpec : ChangeSpec := { name := "fnDigests", fn := fun _ => fun
  | [d1, d2] => { results := [.lit (.bool true)], args := [d1, d2] }
  | _ => none }
def fnDigestsRow : OpenClaim := { program := "ytnpndpmelgfmbaa", sum := "a0a85b0617050ce6317edc2714993f13d7e9491b07b58b558eff91666a1b06d4", func := "loop.example/g00877/laws.FnDigests", spec := "fnDigests", unfollowed := true, recurses := true, apart := false }
def FnDigestsSaid : Prop := fnDigestsRow.holds Try.pinned (OpenSpec.ofChange fnDigestsSpec)

/-- ITS FALSE NEIGHBOUR: 'it returns false'. Refute it at one input. -/
def fnDigestsWrong : ChangeSpec := { name := "fnDigests", fn := fun _ => fun
  | [d1, d2] => { results := [.lit (.bool false)], args := [d1, d2] }
  | _ => none }
def FnDigestsWrongFalsely : Prop := fnDigestsRow.holds Try.pinned (OpenSpec.ofChange fnDigestsWrong)

/- THE SECOND FORM. 'bulk': how many values and letters a reading holds, each counted each time it is reached (what is shared counts as often as it is met; a slice's spare places count too). A statement '..UptoSaid' is the law's where the arguments, and the package variables that the reading takes, are together of bulk at most 1048576: NARROWER than '..Said'. Prove '..Said' where nothing that the law and all that it calls make is longer than what came in: it says more and counts as full. Else prove '..UptoSaid'. A law counts once. -/
mutual
def uptoBulk {H : Type} : DataW H → Nat
  | .lit (.string bytes) => bytes.length + 1
  | .lit _ => 1
  | .nil => 1
  | .ptr d => uptoBulk d + 1
  | .slice elems spare => uptoBulkAll elems + uptoBulkAll spare + 1
  | .agg parts => uptoBulkAll parts + 1
  | .iface _ d => uptoBulk d + 1
  | .map entries => uptoBulkEntries entries + 1
  | .held _ => 1
def uptoBulkAll {H : Type} : List (DataW H) → Nat
  | [] => 0
  | d :: r => uptoBulk d + uptoBulkAll r
def uptoBulkEntries {H : Type} : List (Lit × DataW H) → Nat
  | [] => 0
  | x :: r => uptoBulkEntry x + uptoBulkEntries r
def uptoBulkEntry {H : Type} : Lit × DataW H → Nat
  | (.string bytes, d) => bytes.length + uptoBulk d + 1
  | (_, d) => uptoBulk d + 1
 end
def uptoSmall : (H : Type) → List (DataW H) → Bool := fun _ ds => decide (uptoBulkAll ds ≤ 1048576)
def OpenSpec.upto (s : _root_.Go.ChangeSpec) : _root_.Go.OpenSpec := { _root_.Go.OpenSpec.ofChange s with cond := some uptoSmall }

/-- 'laws.FnExactLayersOf', WHERE WHAT IT READS IS OF BULK AT MOST 1048576: true; the input reads as it did. -/
def fnExactLayersOfUptoRow : OpenClaim := { program := "ytnpndpmelgfmbaa", sum := "a0a85b0617050ce6317edc2714993f13d7e9491b07b58b558eff91666a1b06d4", func := "loop.example/g00877/laws.FnExactLayersOf", spec := "fnExactLayersOf", unfollowed := true, recurses := true, apart := false, narrowed := true }
def FnExactLayersOfUptoSaid : Prop := fnExactLayersOfUptoRow.holds Try.pinned (OpenSpec.upto fnExactLayersOfSpec)

/-- 'laws.FnBits', WHERE WHAT IT READS IS OF BULK AT MOST 1048576: true; the input reads as it did. -/
def fnBitsUptoRow : OpenClaim := { program := "ytnpndpmelgfmbaa", sum := "a0a85b0617050ce6317edc2714993f13d7e9491b07b58b558eff91666a1b06d4", func := "loop.example/g00877/laws.FnBits", spec := "fnBits", unfollowed := true, recurses := true, apart := false, narrowed := true }
def FnBitsUptoSaid : Prop := fnBitsUptoRow.holds Try.pinned (OpenSpec.upto fnBitsSpec)

/-- 'laws.FnExactDepthOf', WHERE WHAT IT READS IS OF BULK AT MOST 1048576: true; the input reads as it did. -/
def fnExactDepthOfUptoRow : OpenClaim := { program := "ytnpndpmelgfmbaa", sum := "a0a85b0617050ce6317edc2714993f13d7e9491b07b58b558eff91666a1b06d4", func := "loop.example/g00877/laws.FnExactDepthOf", spec := "fnExactDepthOf", unfollowed := true, recurses := true, apart := false, narrowed := true }
def FnExactDepthOfUptoSaid : Prop := fnExactDepthOfUptoRow.holds Try.pinned (OpenSpec.upto fnExactDepthOfSpec)

/-- 'laws.FnBitTexts', WHERE WHAT IT READS IS OF BULK AT MOST 1048576: true; the input reads as it did. -/
def fnBitTextsUptoRow : OpenClaim := { program := "ytnpndpmelgfmbaa", sum := "a0a85b0617050ce6317edc2714993f13d7e9491b07b58b558eff91666a1b06d4", func := "loop.example/g00877/laws.FnBitTexts", spec := "fnBitTexts", unfollowed := true, recurses := true, apart := false, narrowed := true }
def FnBitTextsUptoSaid : Prop := fnBitTextsUptoRow.holds Try.pinned (OpenSpec.upto fnBitTextsSpec)

/-- 'laws.FnStreams', WHERE WHAT IT READS IS OF BULK AT MOST 1048576: true; the input reads as it did. -/
def fnStreamsUptoRow : OpenClaim := { program := "ytnpndpmelgfmbaa", sum := "a0a85b0617050ce6317edc2714993f13d7e9491b07b58b558eff91666a1b06d4", func := "loop.example/g00877/laws.FnStreams", spec := "fnStreams", unfollowed := true, recurses := true, apart := false, narrowed := true }
def FnStreamsUptoSaid : Prop := fnStreamsUptoRow.holds Try.pinned (OpenSpec.upto fnStreamsSpec)

/-- 'laws.FnNetworks', WHERE WHAT IT READS IS OF BULK AT MOST 1048576: true; the input reads as it did. -/
def fnNetworksUptoRow : OpenClaim := { program := "ytnpndpmelgfmbaa", sum := "a0a85b0617050ce6317edc2714993f13d7e9491b07b58b558eff91666a1b06d4", func := "loop.example/g00877/laws.FnNetworks", spec := "fnNetworks", unfollowed := true, recurses := true, apart := false, narrowed := true }
def FnNetworksUptoSaid : Prop := fnNetworksUptoRow.holds Try.pinned (OpenSpec.upto fnNetworksSpec)

/-- 'laws.FnExactCountDigests', WHERE WHAT IT READS IS OF BULK AT MOST 1048576: true; the input reads as it did. -/
def fnExactCountDigestsUptoRow : OpenClaim := { program := "ytnpndpmelgfmbaa", sum := "a0a85b0617050ce6317edc2714993f13d7e9491b07b58b558eff91666a1b06d4", func := "loop.example/g00877/laws.FnExactCountDigests", spec := "fnExactCountDigests", recurses := true, apart := false, narrowed := true }
def FnExactCountDigestsUptoSaid : Prop := fnExactCountDigestsUptoRow.holds Try.pinned (OpenSpec.upto fnExactCountDigestsSpec)

/-- 'laws.FnDigests', WHERE WHAT IT READS IS OF BULK AT MOST 1048576: true; the input reads as it did. -/
def fnDigestsUptoRow : OpenClaim := { program := "ytnpndpmelgfmbaa", sum := "a0a85b0617050ce6317edc2714993f13d7e9491b07b58b558eff91666a1b06d4", func := "loop.example/g00877/laws.FnDigests", spec := "fnDigests", unfollowed := true, recurses := true, apart := false, narrowed := true }
def FnDigestsUptoSaid : Prop := fnDigestsUptoRow.holds Try.pinned (OpenSpec.upto fnDigestsSpec)

end Rows
end Go.Proofs.Ytnpndpmelgfmbaa
