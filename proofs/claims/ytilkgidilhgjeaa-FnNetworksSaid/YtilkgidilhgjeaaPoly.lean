/-
  Values of polynomials; streams; orders from words.
-/
import Derived.Test.YtilkgidilhgjeaaTurn
namespace Go.Proofs.Ytilkgidilhgjeaa
open Go.RowKit

/-! ### Values of polynomials -/
def evalL (p x : Int) (xs : List Int) : Int := xs.foldr (fun c a => (a * x + c) % p) 0
theorem evalL_drop {p x : Int} {xs : List Int} {j : Nat} {c : Int} (hx : xs[j]? = some c) : evalL p x (xs.drop j) = (evalL p x (xs.drop (j + 1)) * x + c) % p := by
  have hj : j < xs.length := (List.getElem?_eq_some_iff.1 hx).1
  rw [List.drop_eq_getElem_cons hj]
  have : xs[j] = c := by rw [List.getElem?_eq_getElem hj] at hx; simpa using hx
  rw [this]; rfl
theorem evalL_bd {p x : Int} (hp : 0 < p) (xs : List Int) : 0 ≤ evalL p x xs ∧ evalL p x xs < p := by
  cases xs with
  | nil => exact ⟨Int.le_refl _, hp⟩
  | cons c cs => exact ⟨Int.emod_nonneg _ (by omega), Int.emod_lt_of_pos _ hp⟩
theorem ax_bd {p a x : Int} (hp : p ≤ 251) (ha : 0 ≤ a ∧ a < p) (hx : 0 ≤ x ∧ x ≤ p - 1) : 0 ≤ a * x ∧ a * x ≤ 63001 := by
  constructor
  · exact Int.mul_nonneg ha.1 hx.1
  · have := Int.mul_le_mul (show a ≤ 251 by omega) (show x ≤ 251 by omega) hx.1 (by decide)
    omega
def evalPolyF (p : Int) (xs : List Int) (x : Int) : Int × Bool := if (elemB p x && allIn 0 (p - 1) xs && decide (xs.length ≤ 12)) = true then (evalL p x xs, true) else (0, false)
theorem ints_new_any (w w' : World) (x : Int) (hb : w' = w.alloc (.cells #[.int .i64 x] 3)) : Ints w' (w.heap.size + 1) (some ⟨w.heap.size, 0, none⟩) 1 [x] := by
  subst hb; exact ints_new w [x] (by simp)
theorem elemB_prime {p x : Int} (h : elemB p x = true) : primeB p = true := by
  simp only [elemB, Bool.and_eq_true] at h; exact h.1
/-! ### Streams -/
def streamF (key xs : List Int) : List Int × Bool := if (wordsB key 10 && goodB xs 64) = true then (xorL xs (bitsL key xs.length), true) else ([], false)
theorem stream_xor {key xs : List Int} (hg2 : goodB xs 64 = true) : xorBitsF xs (bitsL key xs.length) = (xorL xs (bitsL key xs.length), true) := by
  have hb : goodB (bitsL key xs.length) 64 = true := goodB_iff.2 ⟨by rw [bitsL_length]; exact (goodB_iff.1 hg2).1, bitsL_bits _ _⟩
  simp [xorBitsF, hg2, hb, bitsL_length]
end Go.Proofs.Ytilkgidilhgjeaa
