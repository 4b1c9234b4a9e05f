/-
  The greater of two numbers, the number of a truth, small lists (as in the arithmetic circuits' text, for seats that lack them).
-/
import Derived.Test.YtilkgidilhgjeaaCirc7
namespace Go.Proofs.Ytilkgidilhgjeaa
open Go.RowKit
set_option linter.unusedVariables false
set_option linter.unusedSimpArgs false

def mx (u v : Int) : Int := if u < v then v else u
theorem mx_le {u v m : Int} (h : 0 ≤ u ∧ u ≤ m) (k : 0 ≤ v ∧ v ≤ m) : 0 ≤ mx u v ∧ mx u v ≤ m := by unfold mx; split <;> omega
theorem l1Most_any (a b : Int) (w : World) : Calls Try.prog 49 #[.int .i64 a, .int .i64 b] w fun e w' => e = .returned (.int .i64 (mx a b)) ∧ w = w' := by
  by_cases h : b < a
  · go_enter Try.func49, Try.ntmps49
    go_wp2_with fail
    go_ret
    exact ⟨ret_int (by unfold mx; split <;> omega), rfl⟩
  · go_enter Try.func49, Try.ntmps49
    go_wp2_with fail
    go_ret
    exact ⟨ret_int (by unfold mx; split <;> omega), rfl⟩
theorem bit_any (b : Bool) (w : World) : Calls Try.prog 64 #[.bool b] w fun e w' => e = .returned (.int .i64 (if b = true then 1 else 0)) ∧ w = w' := by
  cases b
  · go_enter Try.func64, Try.ntmps64
    go_wp2_with fail
    go_ret
    exact ⟨rfl, rfl⟩
  · go_enter Try.func64, Try.ntmps64
    go_wp2_with fail
    go_ret
    exact ⟨rfl, rfl⟩
def smallL (m : Int) (o : List Int) : Prop := ∀ (i : Nat) (x : Int), o[i]? = some x → 0 ≤ x ∧ x ≤ m
theorem smallL_snoc {m : Int} {o : List Int} {x : Int} (h : smallL m o) (hx : 0 ≤ x ∧ x ≤ m + 1) : smallL (m + 1) (o ++ [x]) := by
  intro i y hy
  by_cases hi : i < o.length
  · rw [List.getElem?_append_left hi] at hy
    have := h i y hy
    omega
  · rw [List.getElem?_append_right (by omega)] at hy
    have : y = x := by
      rcases Nat.eq_zero_or_pos (i - o.length) with h0 | h0
      · rw [h0] at hy; simpa using hy.symm
      · rw [List.getElem?_eq_none (by simp; omega)] at hy; cases hy
    omega
end Go.Proofs.Ytilkgidilhgjeaa
