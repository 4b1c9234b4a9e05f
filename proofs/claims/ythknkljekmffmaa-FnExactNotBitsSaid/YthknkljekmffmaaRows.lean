/-
  No cell of these rows narrows 'for every input' (looked for: loops, veiled, ifaces, maps, wideKeys, modest, calm, conditions, laid).
  DERIVED. THE GIVEN ROWS OF THIS SEAT. 11 by the template 'for every input the law returns true; each argument reads behind the call as it read before'; 0 by the template 'total and deterministic' (their statements: YthknkljekmffmaaTotals.lean).
  GIVEN WITH THE SEED: the statements are not yours to turn. If you find one false, say at which input.
  Laid BY PROGRAM, IN A SANDBOX (cutbox-rows.mjs): the forced cells as the released guide's own fill.sh prints them over the translation 23c915a132579686… (all of the seat's roots in one cut). By AI agents, Wed Nov 11 2026. No macro, syntax, notation, axiom, sorry.
-/
import Derived.Test.YthknkljekmffmaaChecked
import GoSem.Claim
import GoSem.ClaimJoined
import GoSem.ClaimMapViews
import Derived.JoinedTies
import Derived.KernelRfl
namespace Go.Proofs.Ythknkljekmffmaa
/- THE CELL 'sum', in the pinned program and in every row, IS THE sha256 OF THE DUMP (.gsa) THAT YthknkljekmffmaaProg.lean LOADS. Nothing in Lean hashes anything: it is a label: what it is worth is what the hold of that sum in a sandbox is worth. -/
noncomputable def Try.pinned : Pinned := { name := "ythknkljekmffmaa", sum := "23c915a132579686f9cbd397669faddb89c64e059a20ebfb673420a6701cc35a", checked := Try.checked }
namespace Rows
def none {H : Type} : Left H := { results := [], args := [] }

/-- 'laws.FnExactLabelFor': WHATEVER THE INPUT: true; the input reads as it did. -/
def fnExactLabelForSpec : ChangeSpec := { name := "fnExactLabelFor", fn := fun _ => fun
  | [d1, d2, d3, d4] => { results := [.lit (.bool true)], args := [d1, d2, d3, d4] }
  | _ => none }
def fnExactLabelForRow : OpenClaim := { program := "ythknkljekmffmaa", sum := "23c915a132579686f9cbd397669faddb89c64e059a20ebfb673420a6701cc35a", func := "loop.example/g00877/laws.FnExactLabelFor", spec := "fnExactLabelFor", unfollowed := true, recurses := true, apart := false }
def FnExactLabelForSaid : Prop := fnExactLabelForRow.holds Try.pinned (OpenSpec.ofChange fnExactLabelForSpec)

/-- ITS FALSE NEIGHBOUR: 'it returns false'. Refute it at one input. -/
def fnExactLabelForWrong : ChangeSpec := { name := "fnExactLabelFor", fn := fun _ => fun
  | [d1, d2, d3, d4] => { results := [.lit (.bool false)], args := [d1, d2, d3, d4] }
  | _ => none }
def FnExactLabelForWrongFalsely : Prop := fnExactLabelForRow.holds Try.pinned (OpenSpec.ofChange fnExactLabelForWrong)

/-- 'laws.FnExactDigestOf': WHATEVER THE INPUT: true; the input reads as it did. -/
def fnExactDigestOfSpec : ChangeSpec := { name := "fnExactDigestOf", fn := fun _ => fun
  | [d] => { results := [.lit (.bool true)], args := [d] }
  | _ => none }
def fnExactDigestOfRow : OpenClaim := { program := "ythknkljekmffmaa", sum := "23c915a132579686f9cbd397669faddb89c64e059a20ebfb673420a6701cc35a", func := "loop.example/g00877/laws.FnExactDigestOf", spec := "fnExactDigestOf", unfollowed := true, recurses := true, apart := false }
def FnExactDigestOfSaid : Prop := fnExactDigestOfRow.holds Try.pinned (OpenSpec.ofChange fnExactDigestOfSpec)

/-- ITS FALSE NEIGHBOUR: 'it returns false'. Refute it at one input. -/
def fnExactDigestOfWrong : ChangeSpec := { name := "fnExactDigestOf", fn := fun _ => fun
  | [d] => { results := [.lit (.bool false)], args := [d] }
  | _ => none }
def FnExactDigestOfWrongFalsely : Prop := fnExactDigestOfRow.holds Try.pinned (OpenSpec.ofChange fnExactDigestOfWrong)

/-- 'laws.FnExactNumberFrom': WHATEVER THE INPUT: true; the input reads as it did. -/
def fnExactNumberFromSpec : ChangeSpec := { name := "fnExactNumberFrom", fn := fun _ => fun
  | [d1, d2] => { results := [.lit (.bool true)], args := [d1, d2] }
  | _ => none }
def fnExactNumberFromRow : OpenClaim := { program := "ythknkljekmffmaa", sum := "23c915a132579686f9cbd397669faddb89c64e059a20ebfb673420a6701cc35a", func := "loop.example/g00877/laws.FnExactNumberFrom", spec := "fnExactNumberFrom", unfollowed := true, recurses := true, apart := false }
def FnExactNumberFromSaid : Prop := fnExactNumberFromRow.holds Try.pinned (OpenSpec.ofChange fnExactNumberFromSpec)

/-- ITS FALSE NEIGHBOUR: 'it returns false'. Refute it at one input. -/
def fnExactNumberFromWrong : ChangeSpec := { name := "fnExactNumberFrom", fn := fun _ => fun
  | [d1, d2] => { results := [.lit (.bool false)], args := [d1, d2] }
  | _ => none }
def FnExactNumberFromWrongFalsely : Prop := fnExactNumberFromRow.holds Try.pinned (OpenSpec.ofChange fnExactNumberFromWrong)

/-- 'laws.FnExactEvalPoly': WHATEVER THE INPUT: true; the input reads as it did. -/
def fnExactEvalPolySpec : ChangeSpec := { name := "fnExactEvalPoly", fn := fun _ => fun
  | [d1, d2, d3] => { results := [.lit (.bool true)], args := [d1, d2, d3] }
  | _ => none }
def fnExactEvalPolyRow : OpenClaim := { program := "ythknkljekmffmaa", sum := "23c915a132579686f9cbd397669faddb89c64e059a20ebfb673420a6701cc35a", func := "loop.example/g00877/laws.FnExactEvalPoly", spec := "fnExactEvalPoly", unfollowed := true, recurses := true, apart := false }
def FnExactEvalPolySaid : Prop := fnExactEvalPolyRow.holds Try.pinned (OpenSpec.ofChange fnExactEvalPolySpec)

/-- ITS FALSE NEIGHBOUR: 'it returns false'. Refute it at one input. -/
def fnExactEvalPolyWrong : ChangeSpec := { name := "fnExactEvalPoly", fn := fun _ => fun
  | [d1, d2, d3] => { results := [.lit (.bool false)], args := [d1, d2, d3] }
  | _ => none }
def FnExactEvalPolyWrongFalsely : Prop := fnExactEvalPolyRow.holds Try.pinned (OpenSpec.ofChange fnExactEvalPolyWrong)

/-- 'laws.FnExactBitsFrom': WHATEVER THE INPUT: true; the input reads as it did. -/
def fnExactBitsFromSpec : ChangeSpec := { name := "fnExactBitsFrom", fn := fun _ => fun
  | [d1, d2] => { results := [.lit (.bool true)], args := [d1, d2] }
  | _ => none }
def fnExactBitsFromRow : OpenClaim := { program := "ythknkljekmffmaa", sum := "23c915a132579686f9cbd397669faddb89c64e059a20ebfb673420a6701cc35a", func := "loop.example/g00877/laws.FnExactBitsFrom", spec := "fnExactBitsFrom", unfollowed := true, recurses := true, apart := false }
def FnExactBitsFromSaid : Prop := fnExactBitsFromRow.holds Try.pinned (OpenSpec.ofChange fnExactBitsFromSpec)

/-- ITS FALSE NEIGHBOUR: 'it returns false'. Refute it at one input. -/
def fnExactBitsFromWrong : ChangeSpec := { name := "fnExactBitsFrom", fn := fun _ => fun
  | [d1, d2] => { results := [.lit (.bool false)], args := [d1, d2] }
  | _ => none }
def FnExactBitsFromWrongFalsely : Prop := fnExactBitsFromRow.holds Try.pinned (OpenSpec.ofChange fnExactBitsFromWrong)

/-- 'laws.FnExactOrderFrom': WHATEVER THE INPUT: true; the input reads as it did. -/
def fnExactOrderFromSpec : ChangeSpec := { name := "fnExactOrderFrom", fn := fun _ => fun
  | [d1, d2] => { results := [.lit (.bool true)], args := [d1, d2] }
  | _ => none }
def fnExactOrderFromRow : OpenClaim := { program := "ythknkljekmffmaa", sum := "23c915a132579686f9cbd397669faddb89c64e059a20ebfb673420a6701cc35a", func := "loop.example/g00877/laws.FnExactOrderFrom", spec := "fnExactOrderFrom", unfollowed := true, recurses := true, apart := false }
def FnExactOrderFromSaid : Prop := fnExactOrderFromRow.holds Try.pinned (OpenSpec.ofChange fnExactOrderFromSpec)

/-- ITS FALSE NEIGHBOUR: 'it returns false'. Refute it at one input. -/
def fnExactOrderFromWrong : ChangeSpec := { name := "fnExactOrderFrom", fn := fun _ => fun
  | [d1, d2] => { results := [.lit (.bool false)], args := [d1, d2] }
  | _ => none }
def FnExactOrderFromWrongFalsely : Prop := fnExactOrderFromRow.holds Try.pinned (OpenSpec.ofChange fnExactOrderFromWrong)

/-- 'laws.FnExactStreamXor': WHATEVER THE INPUT: true; the input reads as it did. -/
def fnExactStreamXorSpec : ChangeSpec := { name := "fnExactStreamXor", fn := fun _ => fun
  | [d1, d2] => { results := [.lit (.bool true)], args := [d1, d2] }
  | _ => none }
def fnExactStreamXorRow : OpenClaim := { program := "ythknkljekmffmaa", sum := "23c915a132579686f9cbd397669faddb89c64e059a20ebfb673420a6701cc35a", func := "loop.example/g00877/laws.FnExactStreamXor", spec := "fnExactStreamXor", unfollowed := true, recurses := true, apart := false }
def FnExactStreamXorSaid : Prop := fnExactStreamXorRow.holds Try.pinned (OpenSpec.ofChange fnExactStreamXorSpec)

/-- ITS FALSE NEIGHBOUR: 'it returns false'. Refute it at one input. -/
def fnExactStreamXorWrong : ChangeSpec := { name := "fnExactStreamXor", fn := fun _ => fun
  | [d1, d2] => { results := [.lit (.bool false)], args := [d1, d2] }
  | _ => none }
def FnExactStreamXorWrongFalsely : Prop := fnExactStreamXorRow.holds Try.pinned (OpenSpec.ofChange fnExactStreamXorWrong)

/-- 'laws.FnExactCountDigests': WHATEVER THE INPUT: true; the input reads as it did. -/
def fnExactCountDigestsSpec : ChangeSpec := { name := "fnExactCountDigests", fn := fun _ => fun
  | [d1, d2] => { results := [.lit (.bool true)], args := [d1, d2] }
  | _ => none }
def fnExactCountDigestsRow : OpenClaim := { program := "ythknkljekmffmaa", sum := "23c915a132579686f9cbd397669faddb89c64e059a20ebfb673420a6701cc35a", func := "loop.example/g00877/laws.FnExactCountDigests", spec := "fnExactCountDigests", recurses := true, apart := false }
def FnExactCountDigestsSaid : Prop := fnExactCountDigestsRow.holds Try.pinned (OpenSpec.ofChange fnExactCountDigestsSpec)

/-- ITS FALSE NEIGHBOUR: 'it returns false'. Refute it at one input. -/
def fnExactCountDigestsWrong : ChangeSpec := { name := "fnExactCountDigests", fn := fun _ => fun
  | [d1, d2] => { results := [.lit (.bool false)], args := [d1, d2] }
  | _ => none }
def FnExactCountDigestsWrongFalsely : Prop := fnExactCountDigestsRow.holds Try.pinned (OpenSpec.ofChange fnExactCountDigestsWrong)

/-- 'laws.FnExactTurnBits': WHATEVER THE INPUT: true; the input reads as it did. -/
def fnExactTurnBitsSpec : ChangeSpec := { name := "fnExactTurnBits", fn := fun _ => fun
  | [d1, d2] => { results := [.lit (.bool true)], args := [d1, d2] }
  | _ => none }
def fnExactTurnBitsRow : OpenClaim := { program := "ythknkljekmffmaa", sum := "23c915a132579686f9cbd397669faddb89c64e059a20ebfb673420a6701cc35a", func := "loop.example/g00877/laws.FnExactTurnBits", spec := "fnExactTurnBits", unfollowed := true, recurses := true, apart := false }
def FnExactTurnBitsSaid : Prop := fnExactTurnBitsRow.holds Try.pinned (OpenSpec.ofChange fnExactTurnBitsSpec)

/-- ITS FALSE NEIGHBOUR: 'it returns false'. Refute it at one input. -/
def fnExactTurnBitsWrong : ChangeSpec := { name := "fnExactTurnBits", fn := fun _ => fun
  | [d1, d2] => { results := [.lit (.bool false)], args := [d1, d2] }
  | _ => none }
def FnExactTurnBitsWrongFalsely : Prop := fnExactTurnBitsRow.holds Try.pinned (OpenSpec.ofChange fnExactTurnBitsWrong)

/-- 'laws.FnExactNotBits': WHATEVER THE INPUT: true; the input reads as it did. -/
def fnExactNotBitsSpec : ChangeSpec := { name := "fnExactNotBits", fn := fun _ => fun
  | [d] => { results := [.lit (.bool true)], args := [d] }
  | _ => none }
def fnExactNotBitsRow : OpenClaim := { program := "ythknkljekmffmaa", sum := "23c915a132579686f9cbd397669faddb89c64e059a20ebfb673420a6701cc35a", func := "loop.example/g00877/laws.FnExactNotBits", spec := "fnExactNotBits", unfollowed := true, recurses := true, apart := false }
def FnExactNotBitsSaid : Prop := fnExactNotBitsRow.holds Try.pinned (OpenSpec.ofChange fnExactNotBitsSpec)

/-- ITS FALSE NEIGHBOUR: 'it returns false'. Refute it at one input. -/
def fnExactNotBitsWrong : ChangeSpec := { name := "fnExactNotBits", fn := fun _ => fun
  | [d] => { results := [.lit (.bool false)], args := [d] }
  | _ => none }
def FnExactNotBitsWrongFalsely : Prop := fnExactNotBitsRow.holds Try.pinned (OpenSpec.ofChange fnExactNotBitsWrong)

/-- 'laws.FnExactXorBits': WHATEVER THE INPUT: true; the input reads as it did. -/
def fnExactXorBitsSpec : ChangeSpec := { name := "fnExactXorBits", fn := fun _ => fun
  | [d1, d2] => { results := [.lit (.bool true)], args := [d1, d2] }
  | _ => none }
def fnExactXorBitsRow : OpenClaim := { program := "ythknkljekmffmaa", sum := "23c915a132579686f9cbd397669faddb89c64e059a20ebfb673420a6701cc35a", func := "loop.example/g00877/laws.FnExactXorBits", spec := "fnExactXorBits", unfollowed := true, recurses := true, apart := false }
def FnExactXorBitsSaid : Prop := fnExactXorBitsRow.holds Try.pinned (OpenSpec.ofChange fnExactXorBitsSpec)

/-- ITS FALSE NEIGHBOUR: 'it returns false'. Refute it at one input. -/
def fnExactXorBitsWrong : ChangeSpec := { name := "fnExactXorBits", fn := fun _ => fun
  | [d1, d2] => { results := [.lit (.bool false)], args := [d1, d2] }
  | _ => none }
def FnExactXorBitsWrongFalsely : Prop := fnExactXorBitsRow.holds Try.pinned (OpenSpec.ofChange fnExactXorBitsWrong)

/- THE SECOND FORM. 'bulk': how many values and letters a reading holds, each counted each time it is reached (what is shared counts as often as it is met; a slice's spare places count too). A statement '..UptoSaid' is the law's where the arguments, and the package variables that the reading takes, are together of bulk at most 1048576: NARROWER than '..Said'. Prove '..Said' where nothing that the law and all that it calls make is longer than what came in: it says more and counts as full. Else prove '..UptoSaid'. A law counts once. -/
mutual
def uptoBulk {H : Type} : DataW H → Nat
  | .lit (.string bytes) => bytes.length + 1
  | .lit _ => 1
  | .nil => 1
  | .ptr d => uptoBulk d + 1
  | .slice elems spare => uptoBulkAll elems + uptoBulkAll spare + 1
  | .agg parts => uptoBulkAll parts + 1
  | .iface _ d => uptoBulk d + 1
  | .map entries => uptoBulkEntries entries + 1
  | .held _ => 1
def uptoBulkAll {H : Type} : List (DataW H) → Nat
  | [] => 0
  | d :: r => uptoBulk d + uptoBulkAll r
def uptoBulkEntries {H : Type} : List (Lit × DataW H) → Nat
  | [] => 0
  | x :: r => uptoBulkEntry x + uptoBulkEntries r
def uptoBulkEntry {H : Type} : Lit × DataW H → Nat
  | (.string bytes, d) => bytes.length + uptoBulk d + 1
  | (_, d) => uptoBulk d + 1
 end
def uptoSmall : (H : Type) → List (DataW H) → Bool := fun _ ds => decide (uptoBulkAll ds ≤ 1048576)
def OpenSpec.upto (s : _root_.Go.ChangeSpec) : _root_.Go.OpenSpec := { _root_.Go.OpenSpec.ofChange s with cond := some uptoSmall }

/-- 'laws.FnExactLabelFor', WHERE WHAT IT READS IS OF BULK AT MOST 1048576: true; the input reads as it did. -/
def fnExactLabelForUptoRow : OpenClaim := { program := "ythknkljekmffmaa", sum := "23c915a132579686f9cbd397669faddb89c64e059a20ebfb673420a6701cc35a", func := "loop.example/g00877/laws.FnExactLabelFor", spec := "fnExactLabelFor", unfollowed := true, recurses := true, apart := false, narrowed := true }
def FnExactLabelForUptoSaid : Prop := fnExactLabelForUptoRow.holds Try.pinned (OpenSpec.upto fnExactLabelForSpec)

/-- 'laws.FnExactDigestOf', WHERE WHAT IT READS IS OF BULK AT MOST 1048576: true; the input reads as it did. -/
def fnExactDigestOfUptoRow : OpenClaim := { program := "ythknkljekmffmaa", sum := "23c915a132579686f9cbd397669faddb89c64e059a20ebfb673420a6701cc35a", func := "loop.example/g00877/laws.FnExactDigestOf", spec := "fnExactDigestOf", unfollowed := true, recurses := true, apart := false, narrowed := true }
def FnExactDigestOfUptoSaid : Prop := fnExactDigestOfUptoRow.holds Try.pinned (OpenSpec.upto fnExactDigestOfSpec)

/-- 'laws.FnExactNumberFrom', WHERE WHAT IT READS IS OF BULK AT MOST 1048576: true; the input reads as it did. -/
def fnExactNumberFromUptoRow : OpenClaim := { program := "ythknkljekmffmaa", sum := "23c915a132579686f9cbd397669faddb89c64e059a20ebfb673420a6701cc35a", func := "loop.example/g00877/laws.FnExactNumberFrom", spec := "fnExactNumberFrom", unfollowed := true, recurses := true, apart := false, narrowed := true }
def FnExactNumberFromUptoSaid : Prop := fnExactNumberFromUptoRow.holds Try.pinned (OpenSpec.upto fnExactNumberFromSpec)

/-- 'laws.FnExactEvalPoly', WHERE WHAT IT READS IS OF BULK AT MOST 1048576: true; the input reads as it did. -/
def fnExactEvalPolyUptoRow : OpenClaim := { program := "ythknkljekmffmaa", sum := "23c915a132579686f9cbd397669faddb89c64e059a20ebfb673420a6701cc35a", func := "loop.example/g00877/laws.FnExactEvalPoly", spec := "fnExactEvalPoly", unfollowed := true, recurses := true, apart := false, narrowed := true }
def FnExactEvalPolyUptoSaid : Prop := fnExactEvalPolyUptoRow.holds Try.pinned (OpenSpec.upto fnExactEvalPolySpec)

/-- 'laws.FnExactBitsFrom', WHERE WHAT IT READS IS OF BULK AT MOST 1048576: true; the input reads as it did. -/
def fnExactBitsFromUptoRow : OpenClaim := { program := "ythknkljekmffmaa", sum := "23c915a132579686f9cbd397669faddb89c64e059a20ebfb673420a6701cc35a", func := "loop.example/g00877/laws.FnExactBitsFrom", spec := "fnExactBitsFrom", unfollowed := true, recurses := true, apart := false, narrowed := true }
def FnExactBitsFromUptoSaid : Prop := fnExactBitsFromUptoRow.holds Try.pinned (OpenSpec.upto fnExactBitsFromSpec)

/-- 'laws.FnExactOrderFrom', WHERE WHAT IT READS IS OF BULK AT MOST 1048576: true; the input reads as it did. -/
def fnExactOrderFromUptoRow : OpenClaim := { program := "ythknkljekmffmaa", sum := "23c915a132579686f9cbd397669faddb89c64e059a20ebfb673420a6701cc35a", func := "loop.example/g00877/laws.FnExactOrderFrom", spec := "fnExactOrderFrom", unfollowed := true, recurses := true, apart := false, narrowed := true }
def FnExactOrderFromUptoSaid : Prop := fnExactOrderFromUptoRow.holds Try.pinned (OpenSpec.upto fnExactOrderFromSpec)

/-- 'laws.FnExactStreamXor', WHERE WHAT IT READS IS OF BULK AT MOST 1048576: true; the input reads as it did. -/
def fnExactStreamXorUptoRow : OpenClaim := { program := "ythknkljekmffmaa", sum := "23c915a132579686f9cbd397669faddb89c64e059a20ebfb673420a6701cc35a", func := "loop.example/g00877/laws.FnExactStreamXor", spec := "fnExactStreamXor", unfollowed := true, recurses := true, apart := false, narrowed := true }
def FnExactStreamXorUptoSaid : Prop := fnExactStreamXorUptoRow.holds Try.pinned (OpenSpec.upto fnExactStreamXorSpec)

/-- 'laws.FnExactCountDigests', WHERE WHAT IT READS IS OF BULK AT MOST 1048576: true; the input reads as it did. -/
def fnExactCountDigestsUptoRow : OpenClaim := { program := "ythknkljekmffmaa", sum := "23c915a132579686f9cbd397669faddb89c64e059a20ebfb673420a6701cc35a", func := "loop.example/g00877/laws.FnExactCountDigests", spec := "fnExactCountDigests", recurses := true, apart := false, narrowed := true }
def FnExactCountDigestsUptoSaid : Prop := fnExactCountDigestsUptoRow.holds Try.pinned (OpenSpec.upto fnExactCountDigestsSpec)

/-- 'laws.FnExactTurnBits', WHERE WHAT IT READS IS OF BULK AT MOST 1048576: true; the input reads as it did. -/
def fnExactTurnBitsUptoRow : OpenClaim := { program := "ythknkljekmffmaa", sum := "23c915a132579686f9cbd397669faddb89c64e059a20ebfb673420a6701cc35a", func := "loop.example/g00877/laws.FnExactTurnBits", spec := "fnExactTurnBits", unfollowed := true, recurses := true, apart := false, narrowed := true }
def FnExactTurnBitsUptoSaid : Prop := fnExactTurnBitsUptoRow.holds Try.pinned (OpenSpec.upto fnExactTurnBitsSpec)

/-- 'laws.FnExactNotBits', WHERE WHAT IT READS IS OF BULK AT MOST 1048576: true; the input reads as it did. -/
def fnExactNotBitsUptoRow : OpenClaim := { program := "ythknkljekmffmaa", sum := "23c915a132579686f9cbd397669faddb89c64e059a20ebfb673420a6701cc35a", func := "loop.example/g00877/laws.FnExactNotBits", spec := "fnExactNotBits", unfollowed := true, recurses := true, apart := false, narrowed := true }
def FnExactNotBitsUptoSaid : Prop := fnExactNotBitsUptoRow.holds Try.pinned (OpenSpec.upto fnExactNotBitsSpec)

/-- 'laws.FnExactXorBits', WHERE WHAT IT READS IS OF BULK AT MOST 1048576: true; the input reads as it did. -/
def fnExactXorBitsUptoRow : OpenClaim := { program := "ythknkljekmffmaa", sum := "23c915a132579686f9cbd397669faddb89c64e059a20ebfb673420a6701cc35a", func := "loop.example/g00877/laws.FnExactXorBits", spec := "fnExactXorBits", unfollowed := true, recurses := true, apart := false, narrowed := true }
def FnExactXorBitsUptoSaid : Prop := fnExactXorBitsUptoRow.holds Try.pinned (OpenSpec.upto fnExactXorBitsSpec)

end Rows
end Go.Proofs.Ythknkljekmffmaa
