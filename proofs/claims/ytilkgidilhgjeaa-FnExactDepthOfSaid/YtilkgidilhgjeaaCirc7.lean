/-
  Circuits: WireValues and EvalCircuit.
-/
import Derived.Test.YtilkgidilhgjeaaCirc6
namespace Go.Proofs.Ytilkgidilhgjeaa
open Go.RowKit
set_option linter.unusedVariables false
set_option linter.unusedSimpArgs false

def pickL (xs os : List Int) : List Int := os.map (atI xs)
/-- There are a valid circuit and inputs for it. -/
def askedF (i0 i1 : Int) (gs os xs ys : List Int) : Bool := isCircF i0 i1 gs os && (goodB xs 64 && (goodB ys 64 && (decide ((xs.length : Int) = i0) && decide ((ys.length : Int) = i1))))
theorem good_20 {xs : List Int} {i : Int} (h : inB i 0 20 = true) (hl : (xs.length : Int) = i) : goodB xs 20 = goodB xs 64 := by
  have := inB_iff.1 h
  simp only [goodB]
  have e1 : decide ((xs.length : Int) ≤ 20) = true := by simp; omega
  have e2 : decide ((xs.length : Int) ≤ 64) = true := by simp; omega
  simp only [e1, e2]
end Go.Proofs.Ytilkgidilhgjeaa
