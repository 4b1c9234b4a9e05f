/-
  The language: the width of a name, both ways.
-/
import Derived.Test.YtglehpmaniabbaaWd1
namespace Go.Proofs.Ytglehpmaniabbaa
open Go.RowKit
set_option linter.unusedVariables false
set_option linter.unusedSimpArgs false

def wonF (ls : List Ln) (name : ByteArray) : Int × Bool := if laGoodF ls = true ∧ 0 ≤ findF ls name then (atN (laWidths ls) (findF ls name), true) else (0, false)
theorem RetNB.eq {r : Int × Bool} {a : Int} {b : Bool} {w w' : World} (h : r = (a, b)) (hb : Below w.heap.size w w') : RetNB r w (.returned (.tuple #[.int .i64 a, .bool b])) w' := by
  subst h; exact ⟨rfl, hb⟩
end Go.Proofs.Ytglehpmaniabbaa
