/-
  Plain laws of the layers of a network.
-/
import Derived.Test.YtilkgidilhgjeaaZo1
import Derived.Test.YtilkgidilhgjeaaPut
import Derived.Test.YtilkgidilhgjeaaRr2
namespace Go.Proofs.Ytilkgidilhgjeaa
open Go.RowKit
set_option linter.unusedVariables false
set_option linter.unusedSimpArgs false

def addTo (out : List (List Int)) (L : Nat) (i : Int) : List (List Int) := if L = out.length then out ++ [[i]] else out.set L (out.getD L [] ++ [i])
def layStep (st : List (List Int) × List Int) (i : Int) (s : Int × Int) : List (List Int) × List Int :=
  (addTo st.1 (mx (getI st.2 s.1) (getI st.2 s.2)).toNat i, (st.2.set s.1.toNat (mx (getI st.2 s.1) (getI st.2 s.2) + 1)).set s.2.toNat (mx (getI st.2 s.1) (getI st.2 s.2) + 1))
def layTo (l : List (Int × Int)) (n : Nat) : Nat → List (List Int) × List Int
  | 0 => ([], List.replicate n 0)
  | k + 1 => match l[k]? with
    | some s => layStep (layTo l n k) k s
    | none => layTo l n k
theorem layTo_step {l : List (Int × Int)} {k : Nat} {s : Int × Int} (h : l[k]? = some s) (n : Nat) : layTo l n (k + 1) = layStep (layTo l n k) k s := by rw [layTo, h]
def layersF (n : Int) (xs : List Int) : List (List Int) × Bool := if isNetF n xs = true then ((layTo (steps xs) n.toNat (steps xs).length).1, true) else ([], false)
/-- The lines that the steps of a layer touch. -/
def lns (l : List (Int × Int)) (row : List Int) : List Int := row.flatMap fun i => match l[i.toNat]? with
  | some s => [s.1, s.2]
  | none => []
theorem lns_snoc (l : List (Int × Int)) (row : List Int) {i : Nat} {s : Int × Int} (h : l[i]? = some s) : lns l (row ++ [(i : Int)]) = lns l row ++ [s.1, s.2] := by
  unfold lns
  rw [List.flatMap_append]
  simp [h]
def RowOK (l : List (Int × Int)) (row : List Int) : Prop := ∀ (q : Nat) (i : Int), row[q]? = some i → ∃ (m : Nat) (x y : Int), i = m ∧ l[m]? = some (x, y) ∧ x ∉ lns l (row.take q) ∧ y ∉ lns l (row.take q)
structure LI (l : List (Int × Int)) (n k : Nat) : Prop where
  nl : (layTo l n k).2.length = n
  bd : ∀ z : Int, 0 ≤ getI (layTo l n k).2 z ∧ getI (layTo l n k).2 z ≤ ((layTo l n k).1.length : Int)
  ol : (layTo l n k).1.length ≤ k
  row : ∀ (j : Nat) (r : List Int), (layTo l n k).1[j]? = some r → RowOK l r ∧ ∀ z ∈ lns l r, (j : Int) + 1 ≤ getI (layTo l n k).2 z
  sum : tot (layTo l n k).1 = k
theorem getI_set {o : List Int} {a : Nat} {v : Int} (ha : a < o.length) (z : Int) : getI (o.set a v) z = if z.toNat = a then v else getI o z := by
  unfold getI
  simp only [List.getD_eq_getElem?_getD, List.getElem?_set]
  by_cases e : a = z.toNat
  · subst e
    simp [ha]
  · have e' : ¬ z.toNat = a := fun h => e h.symm
    simp [e, e']
theorem tot_set : ∀ (rows : List (List Int)) (k : Nat) (l : List Int) (v : Int), rows[k]? = some l → tot (rows.set k (l ++ [v])) = tot rows + 1
  | [], k, l, v, h => by simp at h
  | l0 :: r, 0, l, v, h => by simp at h; subst h; simp [tot]; omega
  | l0 :: r, k + 1, l, v, h => by
    have ih := tot_set r k l v (by simpa using h)
    rw [List.set_cons_succ]
    unfold tot at ih ⊢
    simp only [List.map_cons, List.sum_cons]
    omega
theorem mx_ge (u v : Int) : u ≤ mx u v ∧ v ≤ mx u v := by unfold mx; split <;> omega
theorem mx_or (u v : Int) : mx u v = u ∨ mx u v = v := by unfold mx; split <;> omega
theorem RowOK.snoc {l : List (Int × Int)} {r : List Int} {k : Nat} {x y : Int} (h : RowOK l r) (hk : l[k]? = some (x, y)) (hx : x ∉ lns l r) (hy : y ∉ lns l r) : RowOK l (r ++ [(k : Int)]) := by
  intro q i hi
  by_cases hq : q < r.length
  · rw [List.getElem?_append_left hq] at hi
    rw [List.take_append_of_le_length (by omega)]
    exact h q i hi
  · have hq' : q = r.length := by
      have := (List.getElem?_eq_some_iff.1 hi).1
      simp at this
      omega
    subst hq'
    rw [List.getElem?_append_right (Nat.le_refl _), Nat.sub_self] at hi
    simp at hi
    subst hi
    rw [List.take_append_of_le_length (Nat.le_refl _), List.take_length]
    exact ⟨k, x, y, rfl, hk, hx, hy⟩
theorem layTo_inv {l : List (Int × Int)} {n : Nat} (hv : l.any (bad (n : Int)) = false) : ∀ k, k ≤ l.length → LI l n k
  | 0, _ => by
    refine ⟨by simp [layTo], fun z => ?_, by simp [layTo], fun j r h => by simp [layTo] at h, by simp [layTo, tot]⟩
    have : getI (layTo l n 0).2 z = 0 := by
      simp only [layTo, getI, List.getD_eq_getElem?_getD, List.getElem?_replicate]
      split <;> rfl
    rw [this]
    simp [layTo]
  | k + 1, hk => by
    have ih := layTo_inv hv k (by omega)
    obtain ⟨⟨x, y⟩, hs⟩ : ∃ s, l[k]? = some s := ⟨_, List.getElem?_eq_getElem (by omega)⟩
    obtain ⟨g1, g2, g3⟩ := good_at hv hs
    have hst := layTo_step hs n
    obtain ⟨i1, i2, i3, i4, i5⟩ := ih
    generalize layTo l n k = st at *
    obtain ⟨out, nx⟩ := st
    dsimp only at i1 i2 i3 i4 i5
    obtain ⟨L, hL⟩ : ∃ L, L = mx (getI nx x) (getI nx y) := ⟨_, rfl⟩
    have hL0 := mx_ge (getI nx x) (getI nx y)
    have hL1 := mx_or (getI nx x) (getI nx y)
    rw [← hL] at hL0 hL1
    have bx := i2 x
    have byy := i2 y
    have hLb : 0 ≤ L ∧ L ≤ (out.length : Int) := by rcases hL1 with h | h <;> omega
    have hnew : layTo l n (k + 1) = (addTo out L.toNat k, (nx.set x.toNat (L + 1)).set y.toNat (L + 1)) := by rw [hst, layStep]; dsimp only; rw [← hL]
    have hxa : x.toNat < nx.length := by omega
    have hya : y.toNat < (nx.set x.toNat (L + 1)).length := by rw [List.length_set]; omega
    have hget : ∀ z : Int, getI ((nx.set x.toNat (L + 1)).set y.toNat (L + 1)) z = if z.toNat = y.toNat then L + 1 else if z.toNat = x.toNat then L + 1 else getI nx z := fun z => by rw [getI_set hya, getI_set hxa]
    have hmono : ∀ z : Int, getI nx z ≤ getI ((nx.set x.toNat (L + 1)).set y.toNat (L + 1)) z := fun z => by
      rw [hget]
      split
      · rename_i e
        have : getI nx z = getI nx y := by simp [getI, e]
        omega
      · split
        · rename_i e
          have : getI nx z = getI nx x := by simp [getI, e]
          omega
        · exact Int.le_refl _
    have hxn : getI ((nx.set x.toNat (L + 1)).set y.toNat (L + 1)) x = L + 1 := by rw [hget]; split <;> simp
    have hyn : getI ((nx.set x.toNat (L + 1)).set y.toNat (L + 1)) y = L + 1 := by rw [hget]; simp
    have hup : ∀ z : Int, 0 ≤ getI ((nx.set x.toNat (L + 1)).set y.toNat (L + 1)) z ∧ getI ((nx.set x.toNat (L + 1)).set y.toNat (L + 1)) z ≤ L + 1 ∨ getI ((nx.set x.toNat (L + 1)).set y.toNat (L + 1)) z = getI nx z := fun z => by
      rw [hget]
      split
      · left; omega
      · split
        · left; omega
        · right; rfl
    by_cases hlast : L.toNat = out.length
    · have hadd : addTo out L.toNat k = out ++ [[(k : Int)]] := by unfold addTo; rw [if_pos hlast]
      refine ⟨by rw [hnew]; simp [i1], fun z => ?_, by rw [hnew, hadd]; simp; omega, fun j r hj => ?_, by rw [hnew, hadd]; unfold tot at i5 ⊢; simp; omega⟩
      · rw [hnew, hadd]
        have := i2 z
        have h2 := hup z
        simp only [List.length_append, List.length_cons, List.length_nil]
        rcases h2 with h2 | h2
        · omega
        · rw [h2]; omega
      · rw [hnew, hadd] at hj
        rw [hnew]
        dsimp only at hj ⊢
        by_cases hjo : j < out.length
        · rw [List.getElem?_append_left hjo] at hj
          exact ⟨(i4 j r hj).1, fun z hz => Int.le_trans ((i4 j r hj).2 z hz) (hmono z)⟩
        · have hje : j = out.length := by
            have := (List.getElem?_eq_some_iff.1 hj).1
            simp at this; omega
          subst hje
          rw [List.getElem?_append_right (Nat.le_refl _), Nat.sub_self] at hj
          simp at hj
          subst hj
          have hln : lns l [(k : Int)] = [x, y] := by have := lns_snoc l [] hs; simpa [lns] using this
          refine ⟨?_, fun z hz => ?_⟩
          · have := RowOK.snoc (l := l) (r := []) (fun q i h => by simp at h) hs (by simp [lns]) (by simp [lns])
            simpa using this
          · rw [hln] at hz
            simp at hz
            rcases hz with rfl | rfl
            · rw [hxn]; omega
            · rw [hyn]; omega
    · have hLt : L.toNat < out.length := by omega
      obtain ⟨r0, hr0⟩ : ∃ r0, out[L.toNat]? = some r0 := ⟨_, List.getElem?_eq_getElem hLt⟩
      have hadd : addTo out L.toNat k = out.set L.toNat (r0 ++ [(k : Int)]) := by unfold addTo; rw [if_neg hlast]; simp [List.getD, hr0]
      refine ⟨by rw [hnew]; simp [i1], fun z => ?_, by rw [hnew, hadd]; simp; omega, fun j r hj => ?_, by rw [hnew, hadd]; dsimp only; rw [tot_set out _ r0 _ hr0]; omega⟩
      · rw [hnew, hadd]
        have := i2 z
        have h2 := hup z
        simp only [List.length_set]
        rcases h2 with h2 | h2
        · omega
        · rw [h2]; omega
      · rw [hnew, hadd] at hj
        rw [hnew]
        dsimp only at hj ⊢
        by_cases hjl : L.toNat = j
        · subst hjl
          rw [List.getElem?_set_self hLt] at hj
          simp at hj
          subst hj
          obtain ⟨h1, h2⟩ := i4 _ r0 hr0
          have hx' : x ∉ lns l r0 := fun hm => by have := h2 x hm; omega
          have hy' : y ∉ lns l r0 := fun hm => by have := h2 y hm; omega
          refine ⟨RowOK.snoc h1 hs hx' hy', fun z hz => ?_⟩
          rw [lns_snoc l r0 hs, List.mem_append] at hz
          rcases hz with hz | hz
          · exact Int.le_trans (h2 z hz) (hmono z)
          · simp at hz
            rcases hz with rfl | rfl
            · rw [hxn]; omega
            · rw [hyn]; omega
        · rw [List.getElem?_set_ne hjl] at hj
          exact ⟨(i4 j r hj).1, fun z hz => Int.le_trans ((i4 j r hj).2 z hz) (hmono z)⟩
end Go.Proofs.Ytilkgidilhgjeaa
