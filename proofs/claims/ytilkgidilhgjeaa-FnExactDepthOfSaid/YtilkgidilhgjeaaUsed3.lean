/-
  Circuits: the wires that are used, the reference's way, and the answers.
-/
import Derived.Test.YtilkgidilhgjeaaUsed2
namespace Go.Proofs.Ytilkgidilhgjeaa
open Go.RowKit
set_option linter.unusedVariables false
set_option linter.unusedSimpArgs false

def partsL (g : Int × Int × Int) : List Int := if g.1 = 0 ∨ g.1 = 1 then [g.2.1, g.2.2] else if g.1 = 2 then [g.2.1] else []
def RetPs (xs : List Int) (w : World) (e : Ending) (w' : World) : Prop := ∃ ao n c, e = .returned (.slice ao n c) ∧ Ints w' w'.heap.size ao n xs ∧ Below w.heap.size w w'
theorem ciParts_any (w : World) (k a b : Int) : Calls Try.prog 98 #[.agg #[.int .i64 k, .int .i64 a, .int .i64 b]] w (RetPs (partsL (k, a, b)) w) := by
  have hb0 : Below w.heap.size w (w.alloc (.cells #[.int .i64 k, .int .i64 a, .int .i64 b] 87)) := (Below.refl _ _).alloc (Nat.le_refl _) _
  have z0 : (w.alloc (.cells #[.int .i64 k, .int .i64 a, .int .i64 b] 87)).heap.size = w.heap.size + 1 := by simp
  have hI2 := ints_lit (w.alloc (.cells #[.int .i64 k, .int .i64 a, .int .i64 b] 87)) [a, b] (by simp)
  have hI1 := ints_lit (w.alloc (.cells #[.int .i64 k, .int .i64 a, .int .i64 b] 87)) [a] (by simp)
  rw [z0] at hI2 hI1
  have HI2 := Lib.hid hI2
  have HI1 := Lib.hid hI1
  clear hI2 hI1 z0
  by_cases k0 : k = 0
  · subst k0
    go_enter Try.func98, Try.ntmps98
    go_wp2_with fail
    go_ret
    exact ⟨_, _, _, rfl, by simpa [partsL] using HI2.out, hb0.alloc hb0.size _⟩
  by_cases k1 : k = 1
  · subst k1
    go_enter Try.func98, Try.ntmps98
    go_wp2_with fail
    go_ret
    exact ⟨_, _, _, rfl, by simpa [partsL] using HI2.out, hb0.alloc hb0.size _⟩
  by_cases k2 : k = 2
  · subst k2
    go_enter Try.func98, Try.ntmps98
    go_wp2_with fail
    go_ret
    exact ⟨_, _, _, rfl, by simpa [partsL] using HI1.out, hb0.alloc hb0.size _⟩
  · have e0 : (k == 0) = false := by simp [k0]
    have e1 : (k == 1) = false := by simp [k1]
    have e2 : (k == 2) = false := by simp [k2]
    go_enter Try.func98, Try.ntmps98
    go_wp2_with fail
    go_ret
    exact ⟨none, 0, 0, rfl, by simp only [partsL, k0, k1, k2, or_self, if_false]; exact ⟨rfl, by decide, .inl rfl⟩, hb0⟩
def setL (m : List Bool) (is : List Int) : List Bool := is.foldl (fun m i => m.set i.toNat true) m
theorem setL_length (is : List Int) : ∀ m : List Bool, (setL m is).length = m.length := by
  induction is with
  | nil => intro m; rfl
  | cons x r ih => intro m; rw [show setL m (x :: r) = setL (m.set x.toNat true) r from rfl, ih]; simp
theorem setL_step {m : List Bool} {is : List Int} {k : Nat} {x : Int} (h : is[k]? = some x) : setL m (is.take (k + 1)) = (setL m (is.take k)).set x.toNat true := by
  rw [setL, setL, List.take_add_one, h]; simp [List.foldl_append]
theorem markG_parts {m : List Bool} {own : Nat} {g : Int × Int × Int} (h : m.getD own false = true) : markG m own g = setL m (partsL g) := by
  simp only [markG, h, if_true, partsL]
  split
  · rfl
  · split <;> rfl
theorem put_tp {m : List Bool} {j : Nat} (h : j < m.length) : putL (tp 0 m) (j : Int) = tp 0 (m.set j true) := by
  have := putL_tp m 0 j h
  simpa using this
theorem has_tp {m : List Bool} {j : Nat} {b : Bool} (h : m[j]? = some b) : (tp 0 m).contains (j : Int) = b := by
  have := tp_has m 0 j b h
  simpa using this
theorem parts_in {own : Int} {g : Int × Int × Int} (h : gateB own g = true) : ∀ x ∈ partsL g, 0 ≤ x ∧ x < own := by
  obtain ⟨k, a, b⟩ := g
  have hk := gateB_kind h
  simp at hk
  intro x hx
  rcases (show k = 0 ∨ k = 1 ∨ k = 2 ∨ k = 3 by omega) with rfl | rfl | rfl | rfl
  · obtain ⟨p, q⟩ := gate01 h (by simp)
    simp [partsL] at hx
    rcases hx with rfl | rfl
    · exact p
    · exact q
  · obtain ⟨p, q⟩ := gate01 h (by simp)
    simp [partsL] at hx
    rcases hx with rfl | rfl
    · exact p
    · exact q
  · obtain ⟨p, q⟩ := gate2 h
    simp [partsL] at hx
    subst hx
    exact p
  · simp [partsL] at hx
theorem backK_length (l : List (Int × Int × Int)) (n0 : Nat) : ∀ (k : Nat) (m : List Bool), (backK l n0 k m).length = m.length
  | 0, _ => rfl
  | k + 1, m => by rw [backK, backK_length l n0 k, markG_length]
theorem usedM_length (n0 : Nat) (l : List (Int × Int × Int)) (os : List Int) : (usedM n0 l os).length = n0 + l.length := by
  rw [usedM, backK_length, outsM_length]
def usedF (i0 i1 : Int) (gs os : List Int) : List Int × Bool := if isCircF i0 i1 gs os = true then (tp 0 (usedM (i0.toNat + i1.toNat) (gts gs) os), true) else ([], false)
end Go.Proofs.Ytilkgidilhgjeaa
