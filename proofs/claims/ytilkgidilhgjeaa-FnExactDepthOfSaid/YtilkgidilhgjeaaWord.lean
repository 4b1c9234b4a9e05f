/-
  Chapter 1, third part: bits that differ, opposite bits, turned bits; values of polynomials; streams.
-/
import Derived.Test.YtilkgidilhgjeaaNum
import Derived.Test.YtilkgidilhgjeaaField
import Derived.Test.YtilkgidilhgjeaaBits1
namespace Go.Proofs.Ytilkgidilhgjeaa
open Go.RowKit

/-! ### Exclusive or -/
def xorL (xs ys : List Int) : List Int := List.zipWith (fun x y => (x + y) % 2) xs ys
theorem xorL_length {xs ys : List Int} (h : xs.length = ys.length) : (xorL xs ys).length = xs.length := by simp [xorL, h]
theorem bit_x {x y : Int} (hx : 0 ≤ x ∧ x ≤ 1) (hy : 0 ≤ y ∧ y ≤ 1) : bits .xor .i64 x y = (x + y) % 2 := by
  rcases (show x = 0 ∨ x = 1 by omega) with rfl | rfl <;> rcases (show y = 0 ∨ y = 1 by omega) with rfl | rfl <;> decide
theorem xorL_get {xs ys : List Int} {k : Nat} {x y : Int} (hx : xs[k]? = some x) (hy : ys[k]? = some y) : (xorL xs ys)[k]? = some ((x + y) % 2) := by
  simp [xorL, List.getElem?_zipWith, hx, hy]
theorem take_get {zs : List Int} {k : Nat} {z : Int} (h : zs[k]? = some z) : zs.take (k + 1) = zs.take k ++ [z] := by rw [List.take_add_one, h]; rfl
def xorBitsF (xs ys : List Int) : List Int × Bool := if (goodB xs 64 && goodB ys 64 && decide (xs.length = ys.length)) = true then (xorL xs ys, true) else ([], false)
/-- One cell of an owned row, its address known. -/
theorem OwnI.cell {B : Nat} {w : World} {g n cap : Nat} {xs : List Int} (h : OwnI B w (some ⟨g, 0, none⟩) n cap xs) {k : Nat} {x : Int} (hx : xs[k]? = some x) : w.cell? ⟨g, k, none⟩ = some (.int .i64 x) := by
  have hk : k < n := by rw [← h.1]; exact (List.getElem?_eq_some_iff.1 hx).1
  obtain ⟨y, hy, hc⟩ := h.ints.at' hk
  rw [hx] at hy
  simp at hy hc
  rw [hc, hy]
/-- A store into an owned row. -/
theorem OwnI.set {B : Nat} {w : World} {g n cap : Nat} {xs : List Int} (h : OwnI B w (some ⟨g, 0, none⟩) n cap xs) {k : Nat} (hk : k < n) (v : Int) :
    OwnI B (w.setCell ⟨g, k, none⟩ (.int .i64 v)) (some ⟨g, 0, none⟩) n cap (xs.set k v) ∧ w.grownBy (w.setCell ⟨g, k, none⟩ (.int .i64 v)) (rowOf (some ⟨g, 0, none⟩) cap) ∧ w.frozen? ⟨g, k, none⟩ = false := by
  obtain ⟨g', hg', _, _, hr⟩ := h.2.2.some (by omega)
  simp at hg'
  subst hg'
  have hcap : cap ≠ 0 := by
    rcases hr.2 with ⟨hv, h0⟩ | ⟨g2, cap2, cur, hv, _, _, hn', _⟩
    · omega
    · simp only [Value.slice.injEq] at hv
      obtain ⟨_, _, rfl⟩ := hv
      omega
  have hst := World.ownsRow.stored hr k (.int .i64 v)
  rw [← List.map_set] at hst
  exact ⟨⟨by simp [h.1], h.2.1, .inr ⟨g, rfl, hst.1⟩⟩, by simpa [rowOf, hcap] using hst.2, World.ownsRow.frozenAt hr k⟩
theorem below_set {B : Nat} {w0 w w' : World} {ao : Option Addr} {n cap : Nat} {xs : List Int} (hb : Below B w0 w) (hown : OwnI B w ao n cap xs) (hg : w.grownBy w' (rowOf ao cap)) (hB : B ≤ w.heap.size) : Below B w0 w' :=
  hb.grown hg hB fun k hk => (hown.rowLt k hk).1
theorem xor_set {xs ys : List Int} {n k : Nat} {v : Int} (hl : xs.length = n) (hl2 : ys.length = n) (hk : k < n) (hv : (xorL xs ys)[k]? = some v) : ((xorL xs ys).take k ++ xs.drop k).set k v = (xorL xs ys).take (k + 1) ++ xs.drop (k + 1) := by
  have hlx : (xorL xs ys).length = n := by rw [xorL_length (hl.trans hl2.symm), hl]
  have hkl : ((xorL xs ys).take k).length = k := by simp [hlx]; omega
  rw [List.set_append_right _ _ (by omega), hkl, Nat.sub_self, take_get hv, List.drop_eq_getElem_cons (by omega), List.set_cons_zero, List.append_assoc]
  rfl
theorem mid_get {zs xs : List Int} {n k : Nat} {x : Int} (hz : zs.length = n) (hx : xs[k]? = some x) (hk : k < n) : (zs.take k ++ xs.drop k)[k]? = some x := by
  have hkl : (zs.take k).length = k := by simp [hz]; omega
  rw [List.getElem?_append_right (by omega), hkl, Nat.sub_self, List.getElem?_drop]
  simpa using hx
/-! ### Opposite bits -/
def notL (xs : List Int) : List Int := xs.map fun x => 1 - x
theorem notL_length (xs : List Int) : (notL xs).length = xs.length := by simp [notL]
theorem notL_get {xs : List Int} {k : Nat} {x : Int} (hx : xs[k]? = some x) : (notL xs)[k]? = some (1 - x) := by simp [notL, hx]
theorem bit_not {x : Int} (hx : 0 ≤ x ∧ x ≤ 1) : bits .xor .i64 x 1 = 1 - x := by
  rcases (show x = 0 ∨ x = 1 by omega) with rfl | rfl <;> decide
def notBitsF (xs : List Int) : List Int × Bool := if goodB xs 64 = true then (notL xs, true) else ([], false)
theorem map_set {zs xs : List Int} {n k : Nat} {v : Int} (hl : xs.length = n) (hz : zs.length = n) (hk : k < n) (hv : zs[k]? = some v) : (zs.take k ++ xs.drop k).set k v = zs.take (k + 1) ++ xs.drop (k + 1) := by
  have hkl : (zs.take k).length = k := by simp [hz]; omega
  rw [List.set_append_right _ _ (by omega), hkl, Nat.sub_self, take_get hv, List.drop_eq_getElem_cons (by omega), List.set_cons_zero, List.append_assoc]
  rfl
end Go.Proofs.Ytilkgidilhgjeaa
