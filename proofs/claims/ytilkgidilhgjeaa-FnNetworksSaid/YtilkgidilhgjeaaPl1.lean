/-
  Plain laws of bits: numbers and texts are read back, exclusive-or undoes itself, turns keep the weight, parities add up.
-/
import Derived.Test.YtilkgidilhgjeaaTurn
import Derived.Test.YtilkgidilhgjeaaBits2
import Derived.Test.YtilkgidilhgjeaaText
import Derived.Test.YtilkgidilhgjeaaPoly
namespace Go.Proofs.Ytilkgidilhgjeaa
open Go.RowKit
set_option linter.unusedVariables false
set_option linter.unusedSimpArgs false

theorem allIn_cons {lo hi x : Int} {xs : List Int} : allIn lo hi (x :: xs) = true ↔ (lo ≤ x ∧ x ≤ hi) ∧ allIn lo hi xs = true := by
  rw [allIn_iff, allIn_iff]
  simp
/-! ### Numbers -/
theorem btOf_num : ∀ (xs : List Int), allIn 0 1 xs = true → btOfL (numL xs).toNat xs.length = xs
  | [], _ => rfl
  | x :: xs, h => by
    obtain ⟨hx, h2⟩ := allIn_cons.1 h
    have hr := (numL_range xs fun y hy => allIn_iff.1 h2 y hy).1
    rw [numL_cons, List.length_cons, btOfL]
    have e1 : (2 * numL xs + x).toNat / 2 = (numL xs).toNat := by omega
    have e2 : (((2 * numL xs + x).toNat % 2 : Nat) : Int) = x := by omega
    rw [e1, e2, btOf_num xs h2]
theorem bits_back {xs : List Int} (hg : goodB xs 16 = true) : bitsOfF (numL xs) xs.length = (xs, true) := by
  obtain ⟨h1, h2⟩ := goodB_iff.1 hg
  have hr := numL_range xs fun y hy => allIn_iff.1 h2 y hy
  unfold bitsOfF btWordB
  rw [if_pos (by rw [Bool.and_eq_true, inB_iff, inB_iff]; refine ⟨⟨by omega, h1⟩, hr.1, ?_⟩; rw [Int.toNat_natCast]; omega), Int.toNat_natCast, btOf_num xs h2]
theorem numberOfF_yes {xs : List Int} (hg : goodB xs 16 = true) : numberOfF xs = (numL xs, true) := by unfold numberOfF; rw [if_pos hg]
theorem numberOfF_no {xs : List Int} (hg : goodB xs 16 = false) : numberOfF xs = (0, false) := by unfold numberOfF; rw [hg]; rfl
theorem signedF_no {xs : List Int} (h : xs = []) : signedF xs = (0, false) := by subst h; rfl
theorem signed_back {xs : List Int} (hg : goodB xs 16 = true) (h0 : xs ≠ []) : ∃ s, signedF xs = (s, true) ∧ s % 2 ^ xs.length = numL xs ∧ -65536 ≤ s ∧ s ≤ 65536 := by
  obtain ⟨h1, h2⟩ := goodB_iff.1 hg
  have hr := numL_range xs fun y hy => allIn_iff.1 h2 y hy
  have hl : 0 < xs.length := List.length_pos_iff.2 h0
  obtain ⟨m, hm⟩ : ∃ m, xs.length = m + 1 := ⟨xs.length - 1, by omega⟩
  have hx : xs[m]? = some (xs[m]'(by omega)) := List.getElem?_eq_getElem (by omega)
  have hv := signedF_val hm hg hx
  have hb := allIn_iff.1 h2 _ (List.mem_of_getElem? hx)
  have hd := last_bd (n := m + 1) hb (by omega)
  have hp := pow_le_16 (n := xs.length) (by omega)
  refine ⟨_, hv, ?_, ?_, ?_⟩
  · rw [← hm, Int.sub_mul_emod_self_right]
    exact Int.emod_eq_of_lt hr.1 hr.2
  · omega
  · omega
/-! ### Exclusive or -/
theorem xor_xor : ∀ (xs ys : List Int), allIn 0 1 xs = true → allIn 0 1 ys = true → xs.length = ys.length → xorL (xorL xs ys) ys = xs ∧ allIn 0 1 (xorL xs ys) = true
  | [], [], _, _, _ => ⟨rfl, rfl⟩
  | [], _ :: _, _, _, h => by simp at h
  | _ :: _, [], _, _, h => by simp at h
  | x :: xs, y :: ys, hx, hy, hl => by
    obtain ⟨bx, hx2⟩ := allIn_cons.1 hx
    obtain ⟨by', hy2⟩ := allIn_cons.1 hy
    obtain ⟨i1, i2⟩ := xor_xor xs ys hx2 hy2 (by simpa using hl)
    have e : xorL (x :: xs) (y :: ys) = (x + y) % 2 :: xorL xs ys := rfl
    rw [e]
    refine ⟨?_, allIn_cons.2 ⟨by omega, i2⟩⟩
    show ((x + y) % 2 + y) % 2 :: xorL (xorL xs ys) ys = _
    rw [i1]
    congr 1
    omega
theorem xor_back {a b x : List Int} (h : xorBitsF a b = (x, true)) : xorBitsF x b = (a, true) := by
  unfold xorBitsF at h
  split at h
  · rename_i hc
    rw [Bool.and_eq_true, Bool.and_eq_true, decide_eq_true_eq] at hc
    obtain ⟨⟨g1, g2⟩, g3⟩ := hc
    simp only [Prod.mk.injEq, and_true] at h
    subst h
    obtain ⟨e1, e2⟩ := xor_xor a b (goodB_iff.1 g1).2 (goodB_iff.1 g2).2 g3
    unfold xorBitsF
    rw [if_pos, e1]
    rw [Bool.and_eq_true, Bool.and_eq_true, decide_eq_true_eq]
    exact ⟨⟨goodB_iff.2 ⟨by rw [xorL_length g3]; exact (goodB_iff.1 g1).1, e2⟩, g2⟩, by rw [xorL_length g3]; exact g3⟩
  · simp at h
/-! ### Turns -/
theorem turn_drop {xs : List Int} (k : Int) (h0 : xs ≠ []) : ∃ j, j ≤ xs.length ∧ turnL xs k = xs.drop j ++ xs.take j := by
  have hl : 0 < xs.length := List.length_pos_iff.2 h0
  obtain ⟨n, hn⟩ : ∃ n, n = xs.length := ⟨_, rfl⟩
  have q0 : 0 ≤ k % n := Int.emod_nonneg _ (by omega)
  have q1 : k % n < n := Int.emod_lt_of_pos _ (by omega)
  obtain ⟨j, hj⟩ := Int.eq_ofNat_of_zero_le q0
  refine ⟨j, by omega, List.ext_getElem? fun i => ?_⟩
  by_cases hi : i < n
  · obtain ⟨m, hm, hmn, hme⟩ := turn_at (xs := xs) (n := n) (i := i) (k := k) hn.symm hi
    rw [hme]
    have e : ((i : Int) + k) % n = ((i : Int) + j) % n := by rw [← Int.add_emod_emod, hj]
    rw [e] at hm
    by_cases hij : i + j < n
    · have : m = i + j := by
        rw [Int.emod_eq_of_lt (by omega) (by omega)] at hm
        omega
      rw [List.getElem?_append_left (by rw [List.length_drop]; omega), List.getElem?_drop, this, Nat.add_comm]
    · have : m = i + j - n := by
        rw [show (i : Int) + j = ((i + j - n : Nat) : Int) + n from by omega, Int.add_emod_right, Int.emod_eq_of_lt (by omega) (by omega)] at hm
        omega
      rw [List.getElem?_append_right (by rw [List.length_drop]; omega), List.length_drop, List.getElem?_take_of_lt (by omega), this]
      congr 1
      omega
  · rw [List.getElem?_eq_none (by rw [turnL_length]; omega), List.getElem?_eq_none (by rw [List.length_append, List.length_drop, List.length_take]; omega)]
theorem sumL_append2 (a b : List Int) : sumL (a ++ b) = sumL a + sumL b := by
  induction a with
  | nil => simp [sumL]
  | cons x r ih => rw [List.cons_append]; show x + sumL (r ++ b) = x + sumL r + sumL b; rw [ih]; omega
theorem turn_sum (xs : List Int) (k : Int) : sumL (turnL xs k) = sumL xs := by
  by_cases h0 : xs = []
  · subst h0; rfl
  · obtain ⟨j, hj, e⟩ := turn_drop k h0
    rw [e, sumL_append2, Int.add_comm, ← sumL_append2, List.take_append_drop]
theorem turn_good {xs : List Int} {k : Int} {m : Int} (hg : goodB xs m = true) : goodB (turnL xs k) m = true := by
  obtain ⟨h1, h2⟩ := goodB_iff.1 hg
  refine goodB_iff.2 ⟨by rw [turnL_length]; exact h1, ?_⟩
  by_cases h0 : xs = []
  · subst h0; rfl
  · obtain ⟨j, hj, e⟩ := turn_drop k h0
    rw [e, allIn_iff]
    intro x hx
    rw [List.mem_append] at hx
    rcases hx with hx | hx
    · exact allIn_iff.1 h2 x (List.mem_of_mem_drop hx)
    · exact allIn_iff.1 h2 x (List.mem_of_mem_take hx)
theorem turn_turn (xs : List Int) (k : Int) : turnL (turnL xs k) (-k) = xs := by
  apply List.ext_getElem?
  intro i
  obtain ⟨n, hn⟩ : ∃ n, n = xs.length := ⟨_, rfl⟩
  by_cases hi : i < n
  · obtain ⟨a, ha, han, hae⟩ := turn_at (xs := turnL xs k) (n := n) (i := i) (k := -k) (by rw [turnL_length, hn]) hi
    obtain ⟨b, hb, hbn, hbe⟩ := turn_at (xs := xs) (n := n) (i := a) (k := k) hn.symm han
    rw [hae, hbe]
    have : b = i := by
      rw [← ha, Int.emod_add_emod, show (i : Int) + -k + k = i from by omega, Int.emod_eq_of_lt (by omega) (by omega)] at hb
      omega
    rw [this]
  · rw [List.getElem?_eq_none (by rw [turnL_length, turnL_length]; omega), List.getElem?_eq_none (by omega)]
theorem turn_back {t u : List Int} {k : Int} (h : turnBitsF t k = (u, true)) : weightF t = (sumL t, true) ∧ weightF u = (sumL t, true) ∧ turnBitsF u (-k) = (t, true) ∧ -1000 ≤ k ∧ k ≤ 1000 := by
  unfold turnBitsF at h
  split at h
  · rename_i hc
    rw [Bool.and_eq_true] at hc
    obtain ⟨g1, g2⟩ := hc
    simp only [Prod.mk.injEq, and_true] at h
    subst h
    have hk := inB_iff.1 g2
    refine ⟨by unfold weightF; rw [if_pos g1], by unfold weightF; rw [if_pos (turn_good g1), turn_sum], ?_, hk.1, hk.2⟩
    unfold turnBitsF
    rw [if_pos (by rw [Bool.and_eq_true]; exact ⟨turn_good g1, inB_iff.2 ⟨by omega, by omega⟩⟩), turn_turn]
  · simp at h
/-! ### Texts -/
theorem text_back {s : ByteArray} {l : List Int} (h : parseBitsF s = (l, true)) : bitsTextF l = (s, true) ∧ notBitsF l = (notL l, true) ∧ notBitsF (notL l) = (l, true) := by
  unfold parseBitsF at h
  split at h
  · rename_i hg
    simp only [Prod.mk.injEq, and_true] at h
    subst h
    obtain ⟨g1, g2⟩ := goodB_iff.1 hg
    have hn2 : notL (notL (codes s.data.toList)) = codes s.data.toList := by
      unfold notL
      rw [List.map_map]
      conv => rhs; rw [← List.map_id (codes s.data.toList)]
      apply List.map_congr_left
      intro x _
      show 1 - (1 - x) = x
      omega
    have hng : goodB (notL (codes s.data.toList)) 64 = true := by
      refine goodB_iff.2 ⟨by rw [notL_length]; exact g1, allIn_iff.2 fun x hx => ?_⟩
      unfold notL at hx
      rw [List.mem_map] at hx
      obtain ⟨y, hy, rfl⟩ := hx
      have := allIn_iff.1 g2 y hy
      omega
    refine ⟨?_, by unfold notBitsF; rw [if_pos hg], by unfold notBitsF; rw [if_pos hng, hn2]⟩
    unfold bitsTextF
    rw [if_pos hg]
    have e : strOfNums (digs (codes s.data.toList)) = s := by
      unfold strOfNums digs codes
      rw [← List.map_reverse, List.reverse_reverse, List.map_map, List.map_map]
      have : (s.data.toList.map (((fun n => UInt8.ofNat n.toNat) ∘ fun b => 48 + b) ∘ fun c : UInt8 => (c.toNat : Int) - 48)) = s.data.toList := by
        conv => rhs; rw [← List.map_id s.data.toList]
        apply List.map_congr_left
        intro c _
        show UInt8.ofNat ((48 : Int) + ((c.toNat : Int) - 48)).toNat = c
        rw [show ((48 : Int) + ((c.toNat : Int) - 48)).toNat = c.toNat from by omega]
        exact UInt8.ofNat_toNat
      rw [this]
    rw [e]
  · simp at h
/-! ### Parities -/
theorem parity_not {a m : List Int} (hl : a.length = m.length) : ∀ k, k ≤ a.length → (parK a m k + parK (notL a) m k) % 2 = sumL (m.take k) % 2
  | 0, _ => by simp [parK, sumL]
  | k + 1, hk => by
    have ih := parity_not hl k (by omega)
    have hx : a[k]? = some (a[k]'(by omega)) := List.getElem?_eq_getElem (by omega)
    have hy : m[k]? = some (m[k]'(by omega)) := List.getElem?_eq_getElem (by omega)
    rw [parK_step hx hy, parK_step (notL_get hx) hy, sumL_take hy]
    generalize a[k]'(by omega) = x
    generalize m[k]'(by omega) = y at *
    generalize parK a m k = p at *
    generalize parK (notL a) m k = q at *
    generalize sumL (m.take k) = s at *
    have e : (1 - x) * y = y - x * y := by rw [Int.sub_mul, Int.one_mul]
    rw [e]
    generalize x * y = z
    omega
theorem parity_back {a m : List Int} {p : Int} (h : parityF a m = (p, true)) : notBitsF a = (notL a, true) ∧ ∃ q, parityF (notL a) m = (q, true) ∧ (p + q) % 2 = sumL m % 2 ∧ 0 ≤ p ∧ p ≤ 1 ∧ 0 ≤ q ∧ q ≤ 1 ∧ goodB m 64 = true := by
  unfold parityF at h
  split at h
  · rename_i hc
    rw [Bool.and_eq_true, Bool.and_eq_true, decide_eq_true_eq] at hc
    obtain ⟨⟨g1, g2⟩, g3⟩ := hc
    simp only [Prod.mk.injEq, and_true] at h
    subst h
    have hng : goodB (notL a) 64 = true := by
      refine goodB_iff.2 ⟨by rw [notL_length]; exact (goodB_iff.1 g1).1, allIn_iff.2 fun x hx => ?_⟩
      unfold notL at hx
      rw [List.mem_map] at hx
      obtain ⟨y, hy, rfl⟩ := hx
      have := allIn_iff.1 (goodB_iff.1 g1).2 y hy
      omega
    refine ⟨by unfold notBitsF; rw [if_pos g1], parK (notL a) m (notL a).length, ?_, ?_, (parK_bd _ _ _).1, (parK_bd _ _ _).2, (parK_bd _ _ _).1, (parK_bd _ _ _).2, g2⟩
    · unfold parityF
      rw [if_pos]
      rw [Bool.and_eq_true, Bool.and_eq_true, decide_eq_true_eq]
      exact ⟨⟨hng, g2⟩, by rw [notL_length]; exact g3⟩
    · rw [notL_length, parity_not g3 _ (Nat.le_refl _), List.take_of_length_le (by omega)]
  · simp at h
/-! ### Streams -/
theorem stream_back {key xs s : List Int} (h : streamF key xs = (s, true)) : streamF key s = (xs, true) := by
  unfold streamF at h
  split at h
  · rename_i hc
    rw [Bool.and_eq_true] at hc
    obtain ⟨g1, g2⟩ := hc
    simp only [Prod.mk.injEq, and_true] at h
    subst h
    have hl : xs.length = (bitsL key xs.length).length := (bitsL_length _ _).symm
    obtain ⟨e1, e2⟩ := xor_xor xs (bitsL key xs.length) (goodB_iff.1 g2).2 (bitsL_bits _ _) hl
    unfold streamF
    rw [if_pos, xorL_length hl, e1]
    rw [Bool.and_eq_true]
    exact ⟨g1, goodB_iff.2 ⟨by rw [xorL_length hl]; exact (goodB_iff.1 g2).1, e2⟩⟩
  · simp at h
end Go.Proofs.Ytilkgidilhgjeaa
