/-
  No cell of these rows narrows 'for every input' (looked for: loops, veiled, ifaces, maps, wideKeys, modest, calm, conditions, laid).
  DERIVED. THE GIVEN ROWS OF THIS SEAT. 12 by the template 'for every input the law returns true; each argument reads behind the call as it read before'; 0 by the template 'total and deterministic' (their statements: YthnmdcfpddpdfaaTotals.lean).
  GIVEN WITH THE SEED: the statements are not yours to turn. If you find one false, say at which input.
  Laid BY PROGRAM, IN A SANDBOX (cutbox-rows.mjs): the forced cells as the released guide's own fill.sh prints them over the translation 8aaf63f6243ca53b… (all of the seat's roots in one cut). By AI agents, Wed Nov 11 2026. No macro, syntax, notation, axiom, sorry.
-/
import Derived.Test.YthnmdcfpddpdfaaChecked
import GoSem.Claim
import GoSem.ClaimJoined
import GoSem.ClaimMapViews
import Derived.JoinedTies
import Derived.KernelRfl
namespace Go.Proofs.Ythnmdcfpddpdfaa
/- THE CELL 'sum', in the pinned program and in every row, IS THE sha256 OF THE DUMP (.gsa) THAT YthnmdcfpddpdfaaProg.lean LOADS. Nothing in Lean hashes anything: it is a label: what it is worth is what the hold of that sum in a sandbox is worth. -/
noncomputable def Try.pinned : Pinned := { name := "ythnmdcfpddpdfaa", sum := "8aaf63f6243ca53bec740df01a9c736330c6fa1d22c5506504f3a7a585df72dd", checked := Try.checked }
namespace Rows
def none {H : Type} : Left H := { results := [], args := [] }

/-- 'laws.FnExactConstants': WHATEVER THE INPUT: true; the input reads as it did. -/
def fnExactConstantsSpec : ChangeSpec := { name := "fnExactConstants", fn := fun _ => fun
  | [] => { results := [.lit (.bool true)], args := [] }
  | _ => none }
def fnExactConstantsRow : OpenClaim := { program := "ythnmdcfpddpdfaa", sum := "8aaf63f6243ca53bec740df01a9c736330c6fa1d22c5506504f3a7a585df72dd", func := "loop.example/g00877/laws.FnExactConstants", spec := "fnExactConstants", apart := false }
def FnExactConstantsSaid : Prop := fnExactConstantsRow.holds Try.pinned (OpenSpec.ofChange fnExactConstantsSpec)

/-- ITS FALSE NEIGHBOUR: 'it returns false'. Refute it at one input. -/
def fnExactConstantsWrong : ChangeSpec := { name := "fnExactConstants", fn := fun _ => fun
  | [] => { results := [.lit (.bool false)], args := [] }
  | _ => none }
def FnExactConstantsWrongFalsely : Prop := fnExactConstantsRow.holds Try.pinned (OpenSpec.ofChange fnExactConstantsWrong)

/-- 'laws.FnExactTextDigest': WHATEVER THE INPUT: true; the input reads as it did. -/
def fnExactTextDigestSpec : ChangeSpec := { name := "fnExactTextDigest", fn := fun _ => fun
  | [d] => { results := [.lit (.bool true)], args := [d] }
  | _ => none }
def fnExactTextDigestRow : OpenClaim := { program := "ythnmdcfpddpdfaa", sum := "8aaf63f6243ca53bec740df01a9c736330c6fa1d22c5506504f3a7a585df72dd", func := "loop.example/g00877/laws.FnExactTextDigest", spec := "fnExactTextDigest", apart := false }
def FnExactTextDigestSaid : Prop := fnExactTextDigestRow.holds Try.pinned (OpenSpec.ofChange fnExactTextDigestSpec)

/-- ITS FALSE NEIGHBOUR: 'it returns false'. Refute it at one input. -/
def fnExactTextDigestWrong : ChangeSpec := { name := "fnExactTextDigest", fn := fun _ => fun
  | [d] => { results := [.lit (.bool false)], args := [d] }
  | _ => none }
def FnExactTextDigestWrongFalsely : Prop := fnExactTextDigestRow.holds Try.pinned (OpenSpec.ofChange fnExactTextDigestWrong)

/-- 'laws.FnExactIsPrime': WHATEVER THE INPUT: true; the input reads as it did. -/
def fnExactIsPrimeSpec : ChangeSpec := { name := "fnExactIsPrime", fn := fun _ => fun
  | [d] => { results := [.lit (.bool true)], args := [d] }
  | _ => none }
def fnExactIsPrimeRow : OpenClaim := { program := "ythnmdcfpddpdfaa", sum := "8aaf63f6243ca53bec740df01a9c736330c6fa1d22c5506504f3a7a585df72dd", func := "loop.example/g00877/laws.FnExactIsPrime", spec := "fnExactIsPrime", apart := false }
def FnExactIsPrimeSaid : Prop := fnExactIsPrimeRow.holds Try.pinned (OpenSpec.ofChange fnExactIsPrimeSpec)

/-- ITS FALSE NEIGHBOUR: 'it returns false'. Refute it at one input. -/
def fnExactIsPrimeWrong : ChangeSpec := { name := "fnExactIsPrime", fn := fun _ => fun
  | [d] => { results := [.lit (.bool false)], args := [d] }
  | _ => none }
def FnExactIsPrimeWrongFalsely : Prop := fnExactIsPrimeRow.holds Try.pinned (OpenSpec.ofChange fnExactIsPrimeWrong)

/-- 'laws.FnExactAreBits': WHATEVER THE INPUT: true; the input reads as it did. -/
def fnExactAreBitsSpec : ChangeSpec := { name := "fnExactAreBits", fn := fun _ => fun
  | [d] => { results := [.lit (.bool true)], args := [d] }
  | _ => none }
def fnExactAreBitsRow : OpenClaim := { program := "ythnmdcfpddpdfaa", sum := "8aaf63f6243ca53bec740df01a9c736330c6fa1d22c5506504f3a7a585df72dd", func := "loop.example/g00877/laws.FnExactAreBits", spec := "fnExactAreBits", unfollowed := true, recurses := true, apart := false }
def FnExactAreBitsSaid : Prop := fnExactAreBitsRow.holds Try.pinned (OpenSpec.ofChange fnExactAreBitsSpec)

/-- ITS FALSE NEIGHBOUR: 'it returns false'. Refute it at one input. -/
def fnExactAreBitsWrong : ChangeSpec := { name := "fnExactAreBits", fn := fun _ => fun
  | [d] => { results := [.lit (.bool false)], args := [d] }
  | _ => none }
def FnExactAreBitsWrongFalsely : Prop := fnExactAreBitsRow.holds Try.pinned (OpenSpec.ofChange fnExactAreBitsWrong)

/-- 'laws.FnExactAddMod': WHATEVER THE INPUT: true; the input reads as it did. -/
def fnExactAddModSpec : ChangeSpec := { name := "fnExactAddMod", fn := fun _ => fun
  | [d1, d2, d3] => { results := [.lit (.bool true)], args := [d1, d2, d3] }
  | _ => none }
def fnExactAddModRow : OpenClaim := { program := "ythnmdcfpddpdfaa", sum := "8aaf63f6243ca53bec740df01a9c736330c6fa1d22c5506504f3a7a585df72dd", func := "loop.example/g00877/laws.FnExactAddMod", spec := "fnExactAddMod", apart := false }
def FnExactAddModSaid : Prop := fnExactAddModRow.holds Try.pinned (OpenSpec.ofChange fnExactAddModSpec)

/-- ITS FALSE NEIGHBOUR: 'it returns false'. Refute it at one input. -/
def fnExactAddModWrong : ChangeSpec := { name := "fnExactAddMod", fn := fun _ => fun
  | [d1, d2, d3] => { results := [.lit (.bool false)], args := [d1, d2, d3] }
  | _ => none }
def FnExactAddModWrongFalsely : Prop := fnExactAddModRow.holds Try.pinned (OpenSpec.ofChange fnExactAddModWrong)

/-- 'laws.FnExactMulMod': WHATEVER THE INPUT: true; the input reads as it did. -/
def fnExactMulModSpec : ChangeSpec := { name := "fnExactMulMod", fn := fun _ => fun
  | [d1, d2, d3] => { results := [.lit (.bool true)], args := [d1, d2, d3] }
  | _ => none }
def fnExactMulModRow : OpenClaim := { program := "ythnmdcfpddpdfaa", sum := "8aaf63f6243ca53bec740df01a9c736330c6fa1d22c5506504f3a7a585df72dd", func := "loop.example/g00877/laws.FnExactMulMod", spec := "fnExactMulMod", apart := false }
def FnExactMulModSaid : Prop := fnExactMulModRow.holds Try.pinned (OpenSpec.ofChange fnExactMulModSpec)

/-- ITS FALSE NEIGHBOUR: 'it returns false'. Refute it at one input. -/
def fnExactMulModWrong : ChangeSpec := { name := "fnExactMulMod", fn := fun _ => fun
  | [d1, d2, d3] => { results := [.lit (.bool false)], args := [d1, d2, d3] }
  | _ => none }
def FnExactMulModWrongFalsely : Prop := fnExactMulModRow.holds Try.pinned (OpenSpec.ofChange fnExactMulModWrong)

/-- 'laws.FnExactOrderMod': WHATEVER THE INPUT: true; the input reads as it did. -/
def fnExactOrderModSpec : ChangeSpec := { name := "fnExactOrderMod", fn := fun _ => fun
  | [d1, d2] => { results := [.lit (.bool true)], args := [d1, d2] }
  | _ => none }
def fnExactOrderModRow : OpenClaim := { program := "ythnmdcfpddpdfaa", sum := "8aaf63f6243ca53bec740df01a9c736330c6fa1d22c5506504f3a7a585df72dd", func := "loop.example/g00877/laws.FnExactOrderMod", spec := "fnExactOrderMod", apart := false }
def FnExactOrderModSaid : Prop := fnExactOrderModRow.holds Try.pinned (OpenSpec.ofChange fnExactOrderModSpec)

/-- ITS FALSE NEIGHBOUR: 'it returns false'. Refute it at one input. -/
def fnExactOrderModWrong : ChangeSpec := { name := "fnExactOrderMod", fn := fun _ => fun
  | [d1, d2] => { results := [.lit (.bool false)], args := [d1, d2] }
  | _ => none }
def FnExactOrderModWrongFalsely : Prop := fnExactOrderModRow.holds Try.pinned (OpenSpec.ofChange fnExactOrderModWrong)

/-- 'laws.FnExactBitsOf': WHATEVER THE INPUT: true; the input reads as it did. -/
def fnExactBitsOfSpec : ChangeSpec := { name := "fnExactBitsOf", fn := fun _ => fun
  | [d1, d2] => { results := [.lit (.bool true)], args := [d1, d2] }
  | _ => none }
def fnExactBitsOfRow : OpenClaim := { program := "ythnmdcfpddpdfaa", sum := "8aaf63f6243ca53bec740df01a9c736330c6fa1d22c5506504f3a7a585df72dd", func := "loop.example/g00877/laws.FnExactBitsOf", spec := "fnExactBitsOf", apart := false }
def FnExactBitsOfSaid : Prop := fnExactBitsOfRow.holds Try.pinned (OpenSpec.ofChange fnExactBitsOfSpec)

/-- ITS FALSE NEIGHBOUR: 'it returns false'. Refute it at one input. -/
def fnExactBitsOfWrong : ChangeSpec := { name := "fnExactBitsOf", fn := fun _ => fun
  | [d1, d2] => { results := [.lit (.bool false)], args := [d1, d2] }
  | _ => none }
def FnExactBitsOfWrongFalsely : Prop := fnExactBitsOfRow.holds Try.pinned (OpenSpec.ofChange fnExactBitsOfWrong)

/-- 'laws.FnExactParityOf': WHATEVER THE INPUT: true; the input reads as it did. -/
def fnExactParityOfSpec : ChangeSpec := { name := "fnExactParityOf", fn := fun _ => fun
  | [d1, d2] => { results := [.lit (.bool true)], args := [d1, d2] }
  | _ => none }
def fnExactParityOfRow : OpenClaim := { program := "ythnmdcfpddpdfaa", sum := "8aaf63f6243ca53bec740df01a9c736330c6fa1d22c5506504f3a7a585df72dd", func := "loop.example/g00877/laws.FnExactParityOf", spec := "fnExactParityOf", unfollowed := true, recurses := true, apart := false }
def FnExactParityOfSaid : Prop := fnExactParityOfRow.holds Try.pinned (OpenSpec.ofChange fnExactParityOfSpec)

/-- ITS FALSE NEIGHBOUR: 'it returns false'. Refute it at one input. -/
def fnExactParityOfWrong : ChangeSpec := { name := "fnExactParityOf", fn := fun _ => fun
  | [d1, d2] => { results := [.lit (.bool false)], args := [d1, d2] }
  | _ => none }
def FnExactParityOfWrongFalsely : Prop := fnExactParityOfRow.holds Try.pinned (OpenSpec.ofChange fnExactParityOfWrong)

/-- 'laws.FnExactNumberOf': WHATEVER THE INPUT: true; the input reads as it did. -/
def fnExactNumberOfSpec : ChangeSpec := { name := "fnExactNumberOf", fn := fun _ => fun
  | [d] => { results := [.lit (.bool true)], args := [d] }
  | _ => none }
def fnExactNumberOfRow : OpenClaim := { program := "ythnmdcfpddpdfaa", sum := "8aaf63f6243ca53bec740df01a9c736330c6fa1d22c5506504f3a7a585df72dd", func := "loop.example/g00877/laws.FnExactNumberOf", spec := "fnExactNumberOf", unfollowed := true, recurses := true, apart := false }
def FnExactNumberOfSaid : Prop := fnExactNumberOfRow.holds Try.pinned (OpenSpec.ofChange fnExactNumberOfSpec)

/-- ITS FALSE NEIGHBOUR: 'it returns false'. Refute it at one input. -/
def fnExactNumberOfWrong : ChangeSpec := { name := "fnExactNumberOf", fn := fun _ => fun
  | [d] => { results := [.lit (.bool false)], args := [d] }
  | _ => none }
def FnExactNumberOfWrongFalsely : Prop := fnExactNumberOfRow.holds Try.pinned (OpenSpec.ofChange fnExactNumberOfWrong)

/-- 'laws.FnExactWeightOf': WHATEVER THE INPUT: true; the input reads as it did. -/
def fnExactWeightOfSpec : ChangeSpec := { name := "fnExactWeightOf", fn := fun _ => fun
  | [d] => { results := [.lit (.bool true)], args := [d] }
  | _ => none }
def fnExactWeightOfRow : OpenClaim := { program := "ythnmdcfpddpdfaa", sum := "8aaf63f6243ca53bec740df01a9c736330c6fa1d22c5506504f3a7a585df72dd", func := "loop.example/g00877/laws.FnExactWeightOf", spec := "fnExactWeightOf", unfollowed := true, recurses := true, apart := false }
def FnExactWeightOfSaid : Prop := fnExactWeightOfRow.holds Try.pinned (OpenSpec.ofChange fnExactWeightOfSpec)

/-- ITS FALSE NEIGHBOUR: 'it returns false'. Refute it at one input. -/
def fnExactWeightOfWrong : ChangeSpec := { name := "fnExactWeightOf", fn := fun _ => fun
  | [d] => { results := [.lit (.bool false)], args := [d] }
  | _ => none }
def FnExactWeightOfWrongFalsely : Prop := fnExactWeightOfRow.holds Try.pinned (OpenSpec.ofChange fnExactWeightOfWrong)

/-- 'laws.FnExactSignedOf': WHATEVER THE INPUT: true; the input reads as it did. -/
def fnExactSignedOfSpec : ChangeSpec := { name := "fnExactSignedOf", fn := fun _ => fun
  | [d] => { results := [.lit (.bool true)], args := [d] }
  | _ => none }
def fnExactSignedOfRow : OpenClaim := { program := "ythnmdcfpddpdfaa", sum := "8aaf63f6243ca53bec740df01a9c736330c6fa1d22c5506504f3a7a585df72dd", func := "loop.example/g00877/laws.FnExactSignedOf", spec := "fnExactSignedOf", unfollowed := true, recurses := true, apart := false }
def FnExactSignedOfSaid : Prop := fnExactSignedOfRow.holds Try.pinned (OpenSpec.ofChange fnExactSignedOfSpec)

/-- ITS FALSE NEIGHBOUR: 'it returns false'. Refute it at one input. -/
def fnExactSignedOfWrong : ChangeSpec := { name := "fnExactSignedOf", fn := fun _ => fun
  | [d] => { results := [.lit (.bool false)], args := [d] }
  | _ => none }
def FnExactSignedOfWrongFalsely : Prop := fnExactSignedOfRow.holds Try.pinned (OpenSpec.ofChange fnExactSignedOfWrong)

/- THE SECOND FORM. 'bulk': how many values and letters a reading holds, each counted each time it is reached (what is shared counts as often as it is met; a slice's spare places count too). A statement '..UptoSaid' is the law's where the arguments, and the package variables that the reading takes, are together of bulk at most 1048576: NARROWER than '..Said'. Prove '..Said' where nothing that the law and all that it calls make is longer than what came in: it says more and counts as full. Else prove '..UptoSaid'. A law counts once. -/
mutual
def uptoBulk {H : Type} : DataW H → Nat
  | .lit (.string bytes) => bytes.length + 1
  | .lit _ => 1
  | .nil => 1
  | .ptr d => uptoBulk d + 1
  | .slice elems spare => uptoBulkAll elems + uptoBulkAll spare + 1
  | .agg parts => uptoBulkAll parts + 1
  | .iface _ d => uptoBulk d + 1
  | .map entries => uptoBulkEntries entries + 1
  | .held _ => 1
def uptoBulkAll {H : Type} : List (DataW H) → Nat
  | [] => 0
  | d :: r => uptoBulk d + uptoBulkAll r
def uptoBulkEntries {H : Type} : List (Lit × DataW H) → Nat
  | [] => 0
  | x :: r => uptoBulkEntry x + uptoBulkEntries r
def uptoBulkEntry {H : Type} : Lit × DataW H → Nat
  | (.string bytes, d) => bytes.length + uptoBulk d + 1
  | (_, d) => uptoBulk d + 1
 end
def uptoSmall : (H : Type) → List (DataW H) → Bool := fun _ ds => decide (uptoBulkAll ds ≤ 1048576)
def OpenSpec.upto (s : _root_.Go.ChangeSpec) : _root_.Go.OpenSpec := { _root_.Go.OpenSpec.ofChange s with cond := some uptoSmall }

/-- 'laws.FnExactConstants', WHERE WHAT IT READS IS OF BULK AT MOST 1048576: true; the input reads as it did. -/
def fnExactConstantsUptoRow : OpenClaim := { program := "ythnmdcfpddpdfaa", sum := "8aaf63f6243ca53bec740df01a9c736330c6fa1d22c5506504f3a7a585df72dd", func := "loop.example/g00877/laws.FnExactConstants", spec := "fnExactConstants", apart := false, narrowed := true }
def FnExactConstantsUptoSaid : Prop := fnExactConstantsUptoRow.holds Try.pinned (OpenSpec.upto fnExactConstantsSpec)

/-- 'laws.FnExactTextDigest', WHERE WHAT IT READS IS OF BULK AT MOST 1048576: true; the input reads as it did. -/
def fnExactTextDigestUptoRow : OpenClaim := { program := "ythnmdcfpddpdfaa", sum := "8aaf63f6243ca53bec740df01a9c736330c6fa1d22c5506504f3a7a585df72dd", func := "loop.example/g00877/laws.FnExactTextDigest", spec := "fnExactTextDigest", apart := false, narrowed := true }
def FnExactTextDigestUptoSaid : Prop := fnExactTextDigestUptoRow.holds Try.pinned (OpenSpec.upto fnExactTextDigestSpec)

/-- 'laws.FnExactIsPrime', WHERE WHAT IT READS IS OF BULK AT MOST 1048576: true; the input reads as it did. -/
def fnExactIsPrimeUptoRow : OpenClaim := { program := "ythnmdcfpddpdfaa", sum := "8aaf63f6243ca53bec740df01a9c736330c6fa1d22c5506504f3a7a585df72dd", func := "loop.example/g00877/laws.FnExactIsPrime", spec := "fnExactIsPrime", apart := false, narrowed := true }
def FnExactIsPrimeUptoSaid : Prop := fnExactIsPrimeUptoRow.holds Try.pinned (OpenSpec.upto fnExactIsPrimeSpec)

/-- 'laws.FnExactAreBits', WHERE WHAT IT READS IS OF BULK AT MOST 1048576: true; the input reads as it did. -/
def fnExactAreBitsUptoRow : OpenClaim := { program := "ythnmdcfpddpdfaa", sum := "8aaf63f6243ca53bec740df01a9c736330c6fa1d22c5506504f3a7a585df72dd", func := "loop.example/g00877/laws.FnExactAreBits", spec := "fnExactAreBits", unfollowed := true, recurses := true, apart := false, narrowed := true }
def FnExactAreBitsUptoSaid : Prop := fnExactAreBitsUptoRow.holds Try.pinned (OpenSpec.upto fnExactAreBitsSpec)

/-- 'laws.FnExactAddMod', WHERE WHAT IT READS IS OF BULK AT MOST 1048576: true; the input reads as it did. -/
def fnExactAddModUptoRow : OpenClaim := { program := "ythnmdcfpddpdfaa", sum := "8aaf63f6243ca53bec740df01a9c736330c6fa1d22c5506504f3a7a585df72dd", func := "loop.example/g00877/laws.FnExactAddMod", spec := "fnExactAddMod", apart := false, narrowed := true }
def FnExactAddModUptoSaid : Prop := fnExactAddModUptoRow.holds Try.pinned (OpenSpec.upto fnExactAddModSpec)

/-- 'laws.FnExactMulMod', WHERE WHAT IT READS IS OF BULK AT MOST 1048576: true; the input reads as it did. -/
def fnExactMulModUptoRow : OpenClaim := { program := "ythnmdcfpddpdfaa", sum := "8aaf63f6243ca53bec740df01a9c736330c6fa1d22c5506504f3a7a585df72dd", func := "loop.example/g00877/laws.FnExactMulMod", spec := "fnExactMulMod", apart := false, narrowed := true }
def FnExactMulModUptoSaid : Prop := fnExactMulModUptoRow.holds Try.pinned (OpenSpec.upto fnExactMulModSpec)

/-- 'laws.FnExactOrderMod', WHERE WHAT IT READS IS OF BULK AT MOST 1048576: true; the input reads as it did. -/
def fnExactOrderModUptoRow : OpenClaim := { program := "ythnmdcfpddpdfaa", sum := "8aaf63f6243ca53bec740df01a9c736330c6fa1d22c5506504f3a7a585df72dd", func := "loop.example/g00877/laws.FnExactOrderMod", spec := "fnExactOrderMod", apart := false, narrowed := true }
def FnExactOrderModUptoSaid : Prop := fnExactOrderModUptoRow.holds Try.pinned (OpenSpec.upto fnExactOrderModSpec)

/-- 'laws.FnExactBitsOf', WHERE WHAT IT READS IS OF BULK AT MOST 1048576: true; the input reads as it did. -/
def fnExactBitsOfUptoRow : OpenClaim := { program := "ythnmdcfpddpdfaa", sum := "8aaf63f6243ca53bec740df01a9c736330c6fa1d22c5506504f3a7a585df72dd", func := "loop.example/g00877/laws.FnExactBitsOf", spec := "fnExactBitsOf", apart := false, narrowed := true }
def FnExactBitsOfUptoSaid : Prop := fnExactBitsOfUptoRow.holds Try.pinned (OpenSpec.upto fnExactBitsOfSpec)

/-- 'laws.FnExactParityOf', WHERE WHAT IT READS IS OF BULK AT MOST 1048576: true; the input reads as it did. -/
def fnExactParityOfUptoRow : OpenClaim := { program := "ythnmdcfpddpdfaa", sum := "8aaf63f6243ca53bec740df01a9c736330c6fa1d22c5506504f3a7a585df72dd", func := "loop.example/g00877/laws.FnExactParityOf", spec := "fnExactParityOf", unfollowed := true, recurses := true, apart := false, narrowed := true }
def FnExactParityOfUptoSaid : Prop := fnExactParityOfUptoRow.holds Try.pinned (OpenSpec.upto fnExactParityOfSpec)

/-- 'laws.FnExactNumberOf', WHERE WHAT IT READS IS OF BULK AT MOST 1048576: true; the input reads as it did. -/
def fnExactNumberOfUptoRow : OpenClaim := { program := "ythnmdcfpddpdfaa", sum := "8aaf63f6243ca53bec740df01a9c736330c6fa1d22c5506504f3a7a585df72dd", func := "loop.example/g00877/laws.FnExactNumberOf", spec := "fnExactNumberOf", unfollowed := true, recurses := true, apart := false, narrowed := true }
def FnExactNumberOfUptoSaid : Prop := fnExactNumberOfUptoRow.holds Try.pinned (OpenSpec.upto fnExactNumberOfSpec)

/-- 'laws.FnExactWeightOf', WHERE WHAT IT READS IS OF BULK AT MOST 1048576: true; the input reads as it did. -/
def fnExactWeightOfUptoRow : OpenClaim := { program := "ythnmdcfpddpdfaa", sum := "8aaf63f6243ca53bec740df01a9c736330c6fa1d22c5506504f3a7a585df72dd", func := "loop.example/g00877/laws.FnExactWeightOf", spec := "fnExactWeightOf", unfollowed := true, recurses := true, apart := false, narrowed := true }
def FnExactWeightOfUptoSaid : Prop := fnExactWeightOfUptoRow.holds Try.pinned (OpenSpec.upto fnExactWeightOfSpec)

/-- 'laws.FnExactSignedOf', WHERE WHAT IT READS IS OF BULK AT MOST 1048576: true; the input reads as it did. -/
def fnExactSignedOfUptoRow : OpenClaim := { program := "ythnmdcfpddpdfaa", sum := "8aaf63f6243ca53bec740df01a9c736330c6fa1d22c5506504f3a7a585df72dd", func := "loop.example/g00877/laws.FnExactSignedOf", spec := "fnExactSignedOf", unfollowed := true, recurses := true, apart := false, narrowed := true }
def FnExactSignedOfUptoSaid : Prop := fnExactSignedOfUptoRow.holds Try.pinned (OpenSpec.upto fnExactSignedOfSpec)

end Rows
end Go.Proofs.Ythnmdcfpddpdfaa
