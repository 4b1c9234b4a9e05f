/-
  Chapter 1, the words of bits: numbers of bits, bits of numbers, weights, parities. Each pair of functions (reference, program) answers by one Lean function.
-/
import Derived.Test.YtilkgidilhgjeaaAll
namespace Go.Proofs.Ytilkgidilhgjeaa
open Go.RowKit

/-- The number of bits, the first the least. -/
def numL (xs : List Int) : Int := xs.foldr (fun b a => 2 * a + b) 0
theorem numL_cons (b : Int) (xs : List Int) : numL (b :: xs) = 2 * numL xs + b := rfl
theorem numL_append (xs : List Int) (b : Int) : numL (xs ++ [b]) = numL xs + 2 ^ xs.length * b := by
  induction xs with
  | nil => simp [numL]
  | cons x xs ih => rw [List.cons_append, numL_cons, ih, numL_cons, List.length_cons, Int.pow_succ]; rw [Int.mul_add, Int.mul_comm (2 ^ xs.length) 2, Int.mul_assoc]; omega
theorem numL_range (xs : List Int) (h : ∀ x ∈ xs, 0 ≤ x ∧ x ≤ 1) : 0 ≤ numL xs ∧ numL xs < 2 ^ xs.length := by
  induction xs with
  | nil => simp [numL]
  | cons x xs ih =>
    have hx := h x (by simp)
    have := ih fun y hy => h y (by simp [hy])
    rw [numL_cons, List.length_cons, Int.pow_succ]
    omega
theorem numL_drop {xs : List Int} {j : Nat} {x : Int} (hx : xs[j]? = some x) : numL (xs.drop j) = 2 * numL (xs.drop (j + 1)) + x := by
  have hj : j < xs.length := (List.getElem?_eq_some_iff.1 hx).1
  rw [List.drop_eq_getElem_cons hj, numL_cons]
  have : xs[j] = x := by rw [List.getElem?_eq_getElem hj] at hx; simpa using hx
  rw [this]
theorem pow_le_16 {n : Nat} (h : n ≤ 16) : (2 : Int) ^ n ≤ 65536 := by
  have := Nat.pow_le_pow_right (n := 2) (by decide) h
  have h2 : ((2 ^ n : Nat) : Int) ≤ ((2 ^ 16 : Nat) : Int) := by exact_mod_cast this
  simpa using h2
theorem numL_small {xs : List Int} {n : Nat} (hl : xs.length = n) (hn : n ≤ 16) (h : allIn 0 1 xs = true) (j : Nat) : 0 ≤ numL (xs.drop j) ∧ numL (xs.drop j) ≤ 65535 := by
  have h1 := numL_range (xs.drop j) fun x hx => allIn_iff.1 h x (List.mem_of_mem_drop hx)
  have h2 := pow_le_16 (n := (xs.drop j).length) (by simp; omega)
  omega
theorem numL_small_take {xs : List Int} {n : Nat} (hl : xs.length = n) (hn : n ≤ 16) (h : allIn 0 1 xs = true) (j : Nat) : 0 ≤ numL (xs.take j) ∧ numL (xs.take j) ≤ 65535 := by
  have h1 := numL_range (xs.take j) fun x hx => allIn_iff.1 h x (List.mem_of_mem_take hx)
  have h2 := pow_le_16 (n := (xs.take j).length) (by simp; omega)
  omega

/-- Bits, so many at most. -/
def goodB (xs : List Int) (most : Int) : Bool := decide ((xs.length : Int) ≤ most) && allIn 0 1 xs

theorem or_step {xs : List Int} {n k : Nat} {x : Int} (hl : xs.length = n) (hn : n ≤ 16) (hb : allIn 0 1 xs = true) (hx : xs[k]? = some x) :
    bits .or .i64 (numL (xs.take k)) (wrap64 (x * 2 ^ k)) = numL (xs.take (k + 1)) := by
  have hk : k < xs.length := (List.getElem?_eq_some_iff.1 hx).1
  have hr := numL_range (xs.take k) fun y hy => allIn_iff.1 hb y (List.mem_of_mem_take hy)
  have hlk : (xs.take k).length = k := by simp; omega
  rw [hlk] at hr
  have hxb := allIn_iff.1 hb x (List.mem_of_getElem? hx)
  rw [List.take_add_one, hx, show (some x).toList = [x] from rfl, numL_append, hlk]
  obtain ⟨q, hq⟩ := Int.eq_ofNat_of_zero_le hr.1
  obtain ⟨y, rfl⟩ := Int.eq_ofNat_of_zero_le hxb.1
  rw [hq] at hr ⊢
  have hp : (2 : Int) ^ k = ((2 ^ k : Nat) : Int) := by simp
  rw [hp] at hr ⊢
  have hqk : q < 2 ^ k := by omega
  have hk16 : 2 ^ k ≤ 2 ^ 15 := Nat.pow_le_pow_right (by decide) (by omega)
  have hy : y ≤ 1 := by omega
  have hyk : y * 2 ^ k ≤ 2 ^ 15 := by
    rcases (show y = 0 ∨ y = 1 by omega) with rfl | rfl <;> omega
  rw [← Int.natCast_mul, IntWalk.wrap64_in _ ⟨by omega, by omega⟩, i64_or_nat _ _ (by omega) (by omega), Nat.or_comm, nat_join k (y * 2 ^ k) q (Nat.mul_mod_left _ _) hqk, ← Int.natCast_mul, Nat.mul_comm (2 ^ k) y]
  omega
/-- What NumberOf answers. -/
def numberOfF (xs : List Int) : Int × Bool := if goodB xs 16 = true then (numL xs, true) else (0, false)
theorem goodB_iff {xs : List Int} {m : Int} : goodB xs m = true ↔ (xs.length : Int) ≤ m ∧ allIn 0 1 xs = true := by simp [goodB]
end Go.Proofs.Ytilkgidilhgjeaa
