/-
  The language: operations on numbers, both ways.
-/
import Derived.Test.YtglehpmaniabbaaVa1
namespace Go.Proofs.Ytglehpmaniabbaa
open Go.RowKit
set_option linter.unusedVariables false
set_option linter.unusedSimpArgs false

/-- A number's lowest bits. -/
theorem and_mask (z : Int) (n : Nat) (hn : n ≤ 10) : bits .and .i64 z (2 ^ n - 1) = z % 2 ^ n := by
  have hp : 0 < 2 ^ n := Nat.two_pow_pos n
  have hle : 2 ^ n ≤ 1024 := by
    have := Nat.pow_le_pow_right (show 0 < 2 by decide) hn
    simpa using this
  have e1 : ((2 : Int) ^ n - 1) = ((2 ^ n - 1 : Nat) : Int) := by rw [pow_cast]; omega
  show IntKind.i64.wrap ((BitVec.ofInt 64 z &&& BitVec.ofInt 64 (2 ^ n - 1)).toNat : Int) = _
  rw [e1, BitVec.toNat_and, ofInt_i64 (2 ^ n - 1) (by omega), Nat.and_two_pow_sub_one_eq_mod, BitVec.toNat_ofInt]
  have h64 : (0 : Int) ≤ z % (2 ^ 64 : Nat) := Int.emod_nonneg _ (by decide)
  have e2 : (((z % (2 ^ 64 : Nat)).toNat % 2 ^ n : Nat) : Int) = z % 2 ^ n := by
    rw [Int.natCast_emod, Int.toNat_of_nonneg h64, ← pow_cast]
    refine Int.emod_emod_of_dvd z ?_
    rw [pow_cast]
    exact Int.natCast_dvd_natCast.2 (Nat.pow_dvd_pow 2 (by omega))
  rw [e2, IntKind.wrap_i64]
  have h1 : 0 ≤ z % 2 ^ n := Int.emod_nonneg _ (by rw [pow_cast]; omega)
  have h2 : z % 2 ^ n < 2 ^ n := Int.emod_lt_of_pos _ (by rw [pow_cast]; omega)
  have h3 : (2 : Int) ^ n ≤ 1024 := by rw [pow_cast]; omega
  omega
end Go.Proofs.Ytglehpmaniabbaa
