/-
  Plain laws of networks: what sorts all lists of zeros and ones sorts all lists.
-/
import Derived.Test.YtilkgidilhgjeaaNet8
namespace Go.Proofs.Ytilkgidilhgjeaa
open Go.RowKit
set_option linter.unusedVariables false
set_option linter.unusedSimpArgs false

def thr (t v : Int) : Int := if t ≤ v then 1 else 0
theorem set_same {l : List Int} {i : Nat} {v : Int} (h : l[i]? = some v) : l.set i v = l := by
  apply List.ext_getElem?
  intro j
  rw [List.getElem?_set]
  split
  · rename_i e
    subst e
    rw [h]
    simp [(List.getElem?_eq_some_iff.1 h).1]
  · rfl
theorem thr_exch (t : Int) {o : List Int} {a b : Nat} (ha : a < o.length) (hb : b < o.length) :
    exch (o.map (thr t)) ((a : Int), (b : Int)) = (exch o ((a : Int), (b : Int))).map (thr t) := by
  obtain ⟨u, hu⟩ : ∃ u, o[a]? = some u := ⟨_, List.getElem?_eq_getElem ha⟩
  obtain ⟨v, hv⟩ : ∃ v, o[b]? = some v := ⟨_, List.getElem?_eq_getElem hb⟩
  have hu' : (o.map (thr t))[a]? = some (thr t u) := by rw [List.getElem?_map, hu]; rfl
  have hv' : (o.map (thr t))[b]? = some (thr t v) := by rw [List.getElem?_map, hv]; rfl
  by_cases h : v < u
  · rw [exch_yes hu hv h, List.map_set, List.map_set]
    by_cases h' : thr t v < thr t u
    · rw [exch_yes hu' hv' h']
    · rw [exch_no hu' hv' h']
      have e : thr t v = thr t u := by
        unfold thr at h' ⊢
        split <;> split <;> simp_all <;> omega
      rw [e, set_same hu']
      have hv2 : (o.map (thr t))[b]? = some (thr t u) := by rw [hv', e]
      rw [set_same hv2]
  · have h' : ¬ thr t v < thr t u := by
      unfold thr
      split <;> split <;> omega
    rw [exch_no hu hv h, exch_no hu' hv' h']
theorem thr_fold (t : Int) (n : Nat) : ∀ (l : List (Int × Int)) (o : List Int), l.any (bad (n : Int)) = false → o.length = n → l.foldl exch (o.map (thr t)) = (l.foldl exch o).map (thr t)
  | [], o, _, _ => rfl
  | (x, y) :: l, o, hv, ho => by
    have hg := good_at hv (k := 0) (x := x) (y := y) rfl
    have hv' : l.any (bad (n : Int)) = false := by rw [List.any_cons, Bool.or_eq_false_iff] at hv; exact hv.2
    obtain ⟨a, rfl⟩ := Int.eq_ofNat_of_zero_le hg.1
    obtain ⟨b, rfl⟩ := Int.eq_ofNat_of_zero_le (show 0 ≤ y by omega)
    rw [List.foldl_cons, List.foldl_cons, thr_exch t (by omega) (by omega)]
    exact thr_fold t n l _ hv' (by rw [exch_length]; exact ho)
theorem bits_onto : ∀ (n : Nat) (x : List Int), x.length = n → (∀ v ∈ x, v = 0 ∨ v = 1) → ∃ k, k < 2 ^ n ∧ btOfL k n = x
  | 0, x, h, _ => ⟨0, by simp, by rw [List.eq_nil_of_length_eq_zero h]; rfl⟩
  | n + 1, [], h, _ => by simp at h
  | n + 1, v :: r, h, hb => by
    obtain ⟨k, hk, hr⟩ := bits_onto n r (by simpa using h) (fun v hv => hb v (List.mem_cons_of_mem _ hv))
    have hp : 2 ^ (n + 1) = 2 * 2 ^ n := by rw [Nat.pow_succ, Nat.mul_comm]
    rcases hb v (by simp) with rfl | rfl
    · refine ⟨2 * k, by omega, ?_⟩
      rw [btOfL, show 2 * k % 2 = 0 by omega, show 2 * k / 2 = k by omega, hr]; rfl
    · refine ⟨2 * k + 1, by omega, ?_⟩
      rw [btOfL, show (2 * k + 1) % 2 = 1 by omega, show (2 * k + 1) / 2 = k by omega, hr]; rfl
theorem sortedB_at {o : List Int} (h : sortedB o = true) {k : Nat} {x y : Int} (hx : o[k]? = some x) (hy : o[k + 1]? = some y) : x ≤ y := by
  by_cases hlt : y < x
  · rw [sortedB_no hx hy hlt] at h; cases h
  · omega
theorem zero_one {l : List (Int × Int)} {n : Nat} (hv : l.any (bad (n : Int)) = false) (hall : firstTo l n (2 ^ n) = none) {x : List Int} (hx : x.length = n) : sortedB (l.foldl exch x) = true := by
  refine sortedB_yes fun i u v hu hv2 => ?_
  by_cases hle : u ≤ v
  · exact hle
  · exfalso
    have hm := thr_fold u n l x hv hx
    obtain ⟨k, hk, hb⟩ := bits_onto n (x.map (thr u)) (by simpa using hx) (by
      intro v hv
      rw [List.mem_map] at hv
      obtain ⟨z, _, rfl⟩ := hv
      unfold thr
      split
      · exact .inr rfl
      · exact .inl rfl)
    have hno : unsB l n k = false := by
      have := List.find?_eq_none.1 hall k (by simpa using hk)
      simpa using this
    have hs : sortedB (l.foldl exch (btOfL k n)) = true := by simpa [unsB] using hno
    rw [hb, hm] at hs
    have h1 := sortedB_at hs (k := i) (x := thr u u) (y := thr u v) (by rw [List.getElem?_map, hu]; rfl) (by rw [List.getElem?_map, hv2]; rfl)
    unfold thr at h1
    rw [if_pos (Int.le_refl _), if_neg (by omega)] at h1
    omega
/-- Some neighbours among the first i items fall. -/
def fallB (o : List Int) (i : Nat) : Bool := (List.range (i - 1)).any fun j => decide (o.getD (j + 1) 0 < o.getD j 0)
theorem fallB_one (o : List Int) : fallB o 1 = false := rfl
theorem fallB_step {o : List Int} {i : Nat} {x y : Int} (hx : o[i]? = some x) (hy : o[i + 1]? = some y) : fallB o (i + 2) = (fallB o (i + 1) || decide (y < x)) := by
  unfold fallB
  rw [show i + 2 - 1 = i + 1 by omega, show i + 1 - 1 = i by omega, List.range_succ, List.any_append]
  simp [List.getD, hx, hy]
theorem fallB_all (o : List Int) : fallB o o.length = !sortedB o := by
  unfold fallB sortedB
  rw [List.not_all_eq_any_not]
  congr 1
  funext j
  rw [← decide_not]
  congr 1
  simp [Int.not_le]
end Go.Proofs.Ytilkgidilhgjeaa
