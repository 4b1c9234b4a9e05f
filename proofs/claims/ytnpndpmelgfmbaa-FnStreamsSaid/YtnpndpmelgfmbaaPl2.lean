/-
  Plain laws of streams: orders have all numbers, numbers are below their bounds.
-/
import Derived.Test.YtnpndpmelgfmbaaOrd
namespace Go.Proofs.Ytnpndpmelgfmbaa
open Go.RowKit
set_option linter.unusedVariables false
set_option linter.unusedSimpArgs false

theorem mem_swap {l : List Int} {i k : Nat} (hi : i < l.length) (hk : k < l.length) {x : Int} (hx : x ∈ l) : x ∈ swapL l i k := by
  obtain ⟨a, ha, rfl⟩ := List.getElem_of_mem hx
  by_cases h1 : a = i
  · subst h1
    refine List.mem_of_getElem? (i := k) ?_
    simp [swapL, hk, List.getD, hi]
  · by_cases h2 : a = k
    · subst h2
      refine List.mem_of_getElem? (i := i) ?_
      simp [swapL, List.getElem?_set, List.getD, hi, hk, h1]
    · refine List.mem_of_getElem? (i := a) ?_
      simp [swapL, List.getElem?_set, Ne.symm h1, Ne.symm h2, ha]
theorem mem_ord (xs : List Int) (x : Int) : ∀ (i : Nat) (l : List Int), i = 0 ∨ i < l.length → x ∈ l → x ∈ ordLGo xs i l
  | 0, l, _, h => h
  | i + 1, l, hi, h => by
    have hi' : i + 1 < l.length := by rcases hi with hi | hi <;> omega
    have hp := (pickK_le xs (i + 1)).2
    show x ∈ ordLGo xs i (swapL l (i + 1) (pickK xs (i + 1)))
    exact mem_ord xs x i _ (.inr (by rw [swapL_length]; omega)) (mem_swap hi' (by omega) h)
theorem order_back {key : List Int} {m : Int} {l : List Int} (h : orderFromF key m = (l, true)) : 0 ≤ m ∧ m ≤ 40 ∧ ∀ i : Nat, (i : Int) < m → (i : Int) ∈ l := by
  unfold orderFromF at h
  split at h
  · rename_i hc
    rw [Bool.and_eq_true] at hc
    obtain ⟨h0, h1⟩ := inB_iff.1 hc.2
    simp only [Prod.mk.injEq, and_true] at h
    subst h
    refine ⟨h0, h1, fun i hi => ?_⟩
    unfold orderL
    refine mem_ord _ _ _ _ ?_ ?_
    · simp [upto]; omega
    · simp only [upto, List.mem_map, List.mem_range]
      exact ⟨i, by omega, rfl⟩
  · simp at h
theorem number_back {key : List Int} {m r : Int} (h : numberFromF key m = (r, true)) : 0 ≤ r ∧ r < m := by
  unfold numberFromF at h
  split at h
  · rename_i hc
    rw [Bool.and_eq_true] at hc
    obtain ⟨h0, h1⟩ := inB_iff.1 hc.2
    simp only [Prod.mk.injEq, and_true] at h
    subst h
    exact ⟨Int.emod_nonneg _ (by omega), Int.emod_lt_of_pos _ (by omega)⟩
  · simp at h
end Go.Proofs.Ytnpndpmelgfmbaa
