/-
  Turned bits, values of polynomials, streams, orders from words.
-/
import Derived.Test.YtilkgidilhgjeaaWord
namespace Go.Proofs.Ytilkgidilhgjeaa
open Go.RowKit

/-! ### Turned bits -/
def turnL (xs : List Int) (k : Int) : List Int := (List.range xs.length).map fun (i : Nat) => xs.getD (((i : Int) + k) % xs.length).toNat 0
theorem turnL_length (xs : List Int) (k : Int) : (turnL xs k).length = xs.length := by simp [turnL]
theorem turn_at {xs : List Int} {n i : Nat} {k : Int} (hl : xs.length = n) (hi : i < n) : ∃ j : Nat, ((i : Int) + k) % n = j ∧ j < n ∧ (turnL xs k)[i]? = xs[j]? := by
  have h0 : 0 ≤ ((i : Int) + k) % n := Int.emod_nonneg _ (by omega)
  have h1 : ((i : Int) + k) % n < n := Int.emod_lt_of_pos _ (by omega)
  obtain ⟨j, hj⟩ := Int.eq_ofNat_of_zero_le h0
  refine ⟨j, hj, by omega, ?_⟩
  have hjl : j < xs.length := by omega
  simp only [turnL, List.getElem?_map, hl, List.getElem?_range hi, Option.map_some, hj, Int.toNat_natCast]
  simp [List.getD, List.getElem?_eq_getElem hjl]
def turnBitsF (xs : List Int) (k : Int) : List Int × Bool := if (goodB xs 64 && inB k (-1000) 1000) = true then (turnL xs k, true) else ([], false)
end Go.Proofs.Ytilkgidilhgjeaa
