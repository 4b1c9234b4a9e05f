/-
  Chapter 3, second part: numbers, bits and orders from words.
-/
import Derived.Test.YtilkgidilhgjeaaDigest
import Derived.RegionTactic
import Derived.BigRegion
namespace Go.Proofs.Ytilkgidilhgjeaa
open Go.RowKit

def wordsI (xs : List Int) : Prop := allIn (-1000000000) 1000000000 xs = true
theorem words1 {m : Int} (h0 : -1000000000 ≤ m) (h1 : m ≤ 1000000000) : allIn (-1000000000) 1000000000 [m] = true := by simp [allIn, inB_iff]; omega
theorem words2 {m k : Int} (h0 : -1000000000 ≤ m ∧ m ≤ 1000000000) (h1 : -1000000000 ≤ k ∧ k ≤ 1000000000) : allIn (-1000000000) 1000000000 [m, k] = true := by simp [allIn, inB_iff]; omega

def numberFromF (xs : List Int) (m : Int) : Int × Bool := if (wordsB xs 10 && inB m 1 10000) = true then (mixL (xs ++ [m]) % m, true) else (0, false)
/-! ### Bits -/
def bitsL (xs : List Int) (n : Nat) : List Int := (List.range n).map fun (i : Nat) => mixL (xs ++ [(i : Int), 2]) / 8 % 2
theorem bitsL_snoc (xs : List Int) (n : Nat) : bitsL xs (n + 1) = bitsL xs n ++ [mixL (xs ++ [(n : Int), 2]) / 8 % 2] := by simp [bitsL, List.range_succ]
theorem bitsL_length (xs : List Int) (n : Nat) : (bitsL xs n).length = n := by simp [bitsL]
theorem bitsL_bits (xs : List Int) (n : Nat) : allIn 0 1 (bitsL xs n) = true := by
  rw [allIn_iff]
  intro x hx
  simp only [bitsL, List.mem_map] at hx
  obtain ⟨i, _, rfl⟩ := hx
  omega
def bitsFromF (xs : List Int) (m : Int) : List Int × Bool := if (wordsB xs 10 && inB m 0 64) = true then (bitsL xs m.toNat, true) else ([], false)
end Go.Proofs.Ytilkgidilhgjeaa
