/-
  Plain laws: the sorted list that grows by putL, and the compacted sorted list, are the same.
-/
import Derived.Test.YtilkgidilhgjeaaPut
import Derived.Lib.SlicesCompact
namespace Go.Proofs.Ytilkgidilhgjeaa
open Go.RowKit
set_option linter.unusedVariables false
set_option linter.unusedSimpArgs false

theorem putL_mem : ∀ (l : List Int) (v x : Int), x ∈ putL l v ↔ x = v ∨ x ∈ l
  | [], v, x => by simp [putL]
  | y :: r, v, x => by
    have ih := putL_mem r v x
    unfold putL
    split
    · rw [List.mem_cons, ih, List.mem_cons]
      constructor
      · rintro (h | h | h)
        · exact .inr (.inl h)
        · exact .inl h
        · exact .inr (.inr h)
      · rintro (h | h | h)
        · exact .inr (.inl h)
        · exact .inl h
        · exact .inr (.inr h)
    · split
      · rename_i h
        subst h
        simp
      · simp
theorem putL_sorted : ∀ (l : List Int) (v : Int), l.Pairwise (· < ·) → (putL l v).Pairwise (· < ·)
  | [], v, _ => by simp [putL]
  | y :: r, v, h => by
    obtain ⟨h1, h2⟩ := List.pairwise_cons.1 h
    unfold putL
    split
    · refine List.pairwise_cons.2 ⟨fun x hx => ?_, putL_sorted r v h2⟩
      rcases (putL_mem r v x).1 hx with h | h
      · omega
      · exact h1 x h
    · split
      · exact h
      · refine List.pairwise_cons.2 ⟨fun x hx => ?_, h⟩
        rcases List.mem_cons.1 hx with h | h
        · omega
        · have := h1 x h; omega
theorem putL_length (l : List Int) (v : Int) : (putL l v).length ≤ l.length + 1 := by
  induction l with
  | nil => simp [putL]
  | cons y r ih =>
    unfold putL
    split
    · simp; omega
    · split <;> simp
def putAll (xs : List Int) : List Int := xs.foldl putL []
theorem putAll_snoc (xs : List Int) (v : Int) : putAll (xs ++ [v]) = putL (putAll xs) v := by simp [putAll]
theorem fold_mem : ∀ (xs l : List Int) (x : Int), x ∈ xs.foldl putL l ↔ x ∈ xs ∨ x ∈ l
  | [], l, x => by simp
  | y :: r, l, x => by
    rw [List.foldl_cons, fold_mem r (putL l y) x, putL_mem, List.mem_cons]
    constructor
    · rintro (h | h | h)
      · exact .inl (.inr h)
      · exact .inl (.inl h)
      · exact .inr h
    · rintro ((h | h) | h)
      · exact .inr (.inl h)
      · exact .inl h
      · exact .inr (.inr h)
theorem fold_sorted : ∀ (xs l : List Int), l.Pairwise (· < ·) → (xs.foldl putL l).Pairwise (· < ·)
  | [], l, h => h
  | y :: r, l, h => fold_sorted r _ (putL_sorted l y h)
theorem putAll_length (xs : List Int) : (putAll xs).length ≤ xs.length := by
  have : ∀ (xs l : List Int), (xs.foldl putL l).length ≤ l.length + xs.length := by
    intro xs
    induction xs with
    | nil => intro l; simp
    | cons y r ih =>
      intro l
      have h1 := ih (putL l y)
      have h2 := putL_length l y
      rw [List.foldl_cons, List.length_cons]
      omega
  have h := this xs []
  simpa [putAll] using h
theorem putAll_pos {xs : List Int} (h : xs ≠ []) : 1 ≤ (putAll xs).length := by
  obtain ⟨y, r, rfl⟩ := List.exists_cons_of_ne_nil h
  have : y ∈ putAll (y :: r) := (fold_mem (y :: r) [] y).2 (.inl (by simp))
  exact List.length_pos_of_mem this
theorem strict_ext : ∀ (a b : List Int), a.Pairwise (· < ·) → b.Pairwise (· < ·) → (∀ x, x ∈ a ↔ x ∈ b) → a = b
  | [], [], _, _, _ => rfl
  | [], y :: r, _, _, h => by have := (h y).2 (by simp); simp at this
  | x :: r, [], _, _, h => by have := (h x).1 (by simp); simp at this
  | x :: r, y :: s, h1, h2, h => by
    obtain ⟨a1, a2⟩ := List.pairwise_cons.1 h1
    obtain ⟨b1, b2⟩ := List.pairwise_cons.1 h2
    have e : x = y := by
      rcases List.mem_cons.1 ((h x).1 (by simp)) with e | e
      · exact e
      · rcases List.mem_cons.1 ((h y).2 (by simp)) with e' | e'
        · exact e'.symm
        · have := b1 x e; have := a1 y e'; omega
    subst e
    rw [strict_ext r s a2 b2 fun z => ?_]
    constructor
    · intro hz
      rcases List.mem_cons.1 ((h z).1 (List.mem_cons_of_mem _ hz)) with e | e
      · have := a1 z hz; omega
      · exact e
    · intro hz
      rcases List.mem_cons.1 ((h z).2 (List.mem_cons_of_mem _ hz)) with e | e
      · have := b1 z hz; omega
      · exact e
theorem compact_upto (d : Array Int) (hs : ∀ i j, i ≤ j → j < d.size → d[i]! ≤ d[j]!) : ∀ m, m ≤ d.size →
    (Lib.compactUpTo d m).Pairwise (· < ·) ∧ ∀ x, x ∈ Lib.compactUpTo d m ↔ ∃ j, j < m ∧ d[j]! = x
  | 0, _ => by
    refine ⟨by simp [Lib.compactUpTo], fun x => ?_⟩
    simp [Lib.compactUpTo]
  | m + 1, hm => by
    obtain ⟨h1, h2⟩ := compact_upto d hs m (by omega)
    rw [Lib.compactUpTo_succ]
    cases hk : Lib.keeps d m
    · have hk' : ¬ (m = 0 ∨ d[m]! ≠ d[m - 1]!) := by simpa [Lib.keeps] using hk
      have hm0 : m ≠ 0 := fun e => hk' (.inl e)
      have he : d[m]! = d[m - 1]! := Classical.not_not.1 fun e => hk' (.inr e)
      simp only [Bool.false_eq_true, if_false, List.append_nil]
      refine ⟨h1, fun x => ?_⟩
      rw [h2]
      constructor
      · rintro ⟨j, hj, e⟩; exact ⟨j, by omega, e⟩
      · rintro ⟨j, hj, e⟩
        by_cases hjm : j = m
        · subst hjm; exact ⟨j - 1, by omega, by rw [← he]; exact e⟩
        · exact ⟨j, by omega, e⟩
    · have hk' : m = 0 ∨ d[m]! ≠ d[m - 1]! := by simpa [Lib.keeps] using hk
      simp only [if_true]
      refine ⟨?_, fun x => ?_⟩
      · rw [List.pairwise_append]
        refine ⟨h1, by simp, fun x hx y hy => ?_⟩
        obtain ⟨j, hj, rfl⟩ := (h2 x).1 hx
        simp at hy
        subst hy
        rcases hk' with e | e
        · omega
        · have q1 := hs j (m - 1) (by omega) (by omega)
          have q2 := hs (m - 1) m (by omega) (by omega)
          omega
      · rw [List.mem_append, h2, List.mem_singleton]
        constructor
        · rintro (⟨j, hj, e⟩ | e)
          · exact ⟨j, by omega, e⟩
          · exact ⟨m, by omega, e.symm⟩
        · rintro ⟨j, hj, e⟩
          by_cases hjm : j = m
          · subst hjm; exact .inr e.symm
          · exact .inl ⟨j, by omega, e⟩
theorem compact_put (xs : List Int) : (Lib.compact (xs.mergeSort fun x y => decide (x ≤ y))).length = (putAll xs).length := by
  have hs : (xs.mergeSort fun x y => decide (x ≤ y)).Pairwise (fun a b => decide (a ≤ b) = true) :=
    List.pairwise_mergeSort (fun a b c h1 h2 => by simp at *; omega) (fun a b => by simp; omega) xs
  obtain ⟨ys, hys⟩ : ∃ ys, ys = xs.mergeSort fun x y => decide (x ≤ y) := ⟨_, rfl⟩
  have hmem : ∀ x, x ∈ ys ↔ x ∈ xs := fun x => by rw [hys]; exact List.mem_mergeSort
  rw [← hys] at hs ⊢
  have hd : ∀ i j, i ≤ j → j < ys.toArray.size → ys.toArray[i]! ≤ ys.toArray[j]! := by
    intro i j hij hj
    have hj' : j < ys.length := by simpa using hj
    rw [getElem!_pos _ i (by simp; omega), getElem!_pos _ j hj]
    rcases Nat.lt_or_eq_of_le hij with h | h
    · have := List.pairwise_iff_getElem.1 hs i j (by omega) hj' h
      simpa using this
    · subst h; exact Int.le_refl _
  obtain ⟨h1, h2⟩ := compact_upto ys.toArray hd ys.length (by simp)
  have : Lib.compact ys = putAll xs := by
    refine strict_ext _ _ h1 (fold_sorted xs [] List.Pairwise.nil) fun x => ?_
    unfold putAll
    rw [show Lib.compact ys = Lib.compactUpTo ys.toArray ys.length from rfl, h2, fold_mem]
    constructor
    · rintro ⟨j, hj, e⟩
      left
      rw [← hmem, ← e, getElem!_pos _ j (by simpa using hj)]
      simp
    · rintro (h | h)
      · rw [← hmem] at h
        obtain ⟨j, hj, e⟩ := List.getElem_of_mem h
        exact ⟨j, hj, by rw [getElem!_pos _ j (by simpa using hj)]; simpa using e⟩
      · simp at h
  rw [this]
end Go.Proofs.Ytilkgidilhgjeaa
