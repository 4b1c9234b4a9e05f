/-
  Tests of all elements by a function value: slices.IndexFunc, slices.ContainsFunc, impl.areAll, for whatever function value answers by a predicate.
-/
import Derived.Test.YtdlddkgmjpmenaaGreatDoorBase
namespace Go.Proofs.YtdlddkgmjpmenaaGreatDoor
open Go.RowKit

/-- The function value g over what it captured answers by p on the numbers xs, in every world that is as w below its end. -/
structure Pred (g : FuncId) (caps : Array Value) (w : World) (p : Int → Bool) (xs : List Int) : Prop where
  enter : ∀ (args : Array Value) (W : World), (callFunc g args).run Tryz.prog W = .ok (.enter g args) W
  call : ∀ x ∈ xs, ∀ W, Below w.heap.size w W → Calls Tryz.prog g (#[.int .i64 x] ++ caps) W fun e W' => e = .returned (.bool (p x)) ∧ Below W.heap.size W W'

def idxP (p : Int → Bool) (xs : List Int) : Int := match xs.findIdx? p with | some i => (i : Int) | none => -1

theorem idx_step {p : Int → Bool} {xs : List Int} {k : Nat} {x : Int} (hx : xs[k]? = some x) (h : ∀ y ∈ xs.take k, p y = false) (e : p x = false) : ∀ y ∈ xs.take (k + 1), p y = false := by
  intro y hy
  rw [List.take_add_one, hx] at hy
  rcases List.mem_append.1 hy with hy | hy
  · exact h y hy
  · simp at hy; subst hy; exact e
theorem idx_hit {p : Int → Bool} {xs : List Int} {k : Nat} {x : Int} (hx : xs[k]? = some x) (h : ∀ y ∈ xs.take k, p y = false) (e : p x = true) : idxP p xs = (k : Int) := by
  have hk : k < xs.length := (List.getElem?_eq_some_iff.1 hx).1
  have hxk : xs[k] = x := by rw [List.getElem?_eq_getElem hk] at hx; simpa using hx
  have : xs.findIdx? p = some k := by
    rw [List.findIdx?_eq_some_iff_getElem]
    refine ⟨hk, by rw [hxk]; exact e, fun j hj => ?_⟩
    have := h xs[j] (by rw [List.mem_take_iff_getElem]; exact ⟨j, by omega, rfl⟩)
    simp [this]
  simp [idxP, this]
theorem idx_none {p : Int → Bool} {xs : List Int} (h : ∀ y ∈ xs, p y = false) : idxP p xs = -1 := by
  have : xs.findIdx? p = none := by rw [List.findIdx?_eq_none_iff]; exact h
  simp [idxP, this]
theorem idx_any (p : Int → Bool) (xs : List Int) : (xs.any p = true → 0 ≤ idxP p xs) ∧ (xs.any p = false → idxP p xs = -1) := by
  constructor
  · intro h
    cases hf : xs.findIdx? p with
    | some i => simp [idxP, hf]
    | none =>
      rw [List.findIdx?_eq_none_iff] at hf
      obtain ⟨y, hy, hpy⟩ := List.any_eq_true.1 h
      rw [hf y hy] at hpy
      cases hpy
  · intro h
    exact idx_none fun y hy => by
      have := List.any_eq_false.1 h y hy
      simpa using this
theorem any_not (p : Int → Bool) (xs : List Int) : (xs.any fun x => !p x) = !xs.all p := by induction xs <;> simp [*]
theorem cell_new (w : World) (v : Value) (t : TypeId) : (w.alloc (.cells #[v] t)).cell? ⟨w.heap.size, 0, none⟩ = some v := by
  rw [cell_of_row _ w.heap.size 0 #[v] t (0, 0) (heap_alloc_new w _)]; rfl
end Go.Proofs.YtdlddkgmjpmenaaGreatDoor
