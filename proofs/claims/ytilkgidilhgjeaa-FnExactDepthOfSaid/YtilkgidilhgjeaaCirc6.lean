/-
  Circuits: the values of all wires.
-/
import Derived.Test.YtilkgidilhgjeaaCirc5
import Derived.Test.YtilkgidilhgjeaaDigest
import Derived.StillTailTactics
import Derived.Deep.RegionLaw
namespace Go.Proofs.Ytilkgidilhgjeaa
open Go.RowKit
set_option linter.unusedVariables false
set_option linter.unusedSimpArgs false

/-- 'append(out, x)' of one int as one step of a region that draws. -/
theorem step_append_i {ops : Array Oper} {o : Oper} {a : Act} {w : World} {K : Act → World → Prop} {Q : Exit → Act → World → Prop} {E : Prop} (hgd : o.guard = none) (s x : Operand)
    (ho : o.op = .call { callee := .builtin .append, args := #[s, x], argTypes := #[35, 35] })
    (B : Nat) (ao : Option Addr) (n cap : Nat) (xs : List Int) (u : Int) (hs : a.eval s = .slice ao n cap) (hx : a.eval x = .slice (some ⟨w.heap.size, 0, none⟩) 1 1)
    (hown : OwnI B w ao n cap xs) (hn : n < 999999990) (hB : B ≤ w.heap.size)
    (hK : ∀ ao' cap' w', OwnI B w' ao' (n + 1) cap' (xs ++ [u]) → w.grownBy w' (rowOf ao cap) → K (a.put o.dst (.slice ao' (n + 1) cap')) w') :
    if Region.wanted o (yielded ops a.tmps) = true then Oper.wp Try.prog o a (w.alloc (.cells #[.int .i64 u] 3)) K Q else E := by
  rw [if_pos (by simp [Region.wanted, hgd])]
  obtain ⟨i, hi1, hi2, hi3, hi4⟩ := info_parts int_info
  obtain ⟨ao', cap', w', hr, h2, h3⟩ := run_append_any (P := Try.prog) (w.alloc (.cells #[.int .i64 u] 3)) 35 o.type 3 i (.int .i64 0) 1 8 Try.underlying35 hi1 hi2 hi3 hi4 rfl (by decide) B ao n cap (xs.map (Value.int .i64)) (hown.2.2.alloc _) _ _ 1 1 [.int .i64 u] rfl (cellsAt_new w [.int .i64 u] 3) (by simp [Value.oneCell']) (by unfold maxLen; omega) (by omega) (by simp; omega)
  unfold Oper.wp execOp
  simp only [ho, resolve, invoke, builtin, Sem.run_bind, Sem.run_pure, Result.andThen_ok, List.map_toArray, List.map_cons, List.map_nil, hs, hx, hr]
  exact hK _ _ _ ⟨by simp [hown.1], by omega, by simpa using h2⟩ (grownBy_old h3)
def atI (o : List Int) (i : Int) : Int := o.getD i.toNat 0
theorem atI_get {o : List Int} {i : Nat} {v : Int} (h : o[i]? = some v) : atI o (i : Int) = v := by simp [atI, List.getD, h]
/-- The value of a gate. -/
def gval (v : List Int) (g : Int × Int × Int) : Int :=
  if g.1 = 0 then bits .xor .i64 (atI v g.2.1) (atI v g.2.2) else if g.1 = 1 then bits .and .i64 (atI v g.2.1) (atI v g.2.2) else if g.1 = 2 then 1 - atI v g.2.1 else 1
def valL (l : List (Int × Int × Int)) (v : List Int) : List Int := l.foldl (fun v g => v ++ [gval v g]) v
theorem valL_step {l : List (Int × Int × Int)} {k : Nat} {g : Int × Int × Int} (h : l[k]? = some g) (v : List Int) : valL (l.take (k + 1)) v = valL (l.take k) v ++ [gval (valL (l.take k) v) g] := by
  rw [valL, valL, List.take_add_one, h]; simp [List.foldl_append]
theorem valL_length (l : List (Int × Int × Int)) : ∀ v : List Int, (valL l v).length = v.length + l.length := by
  induction l with
  | nil => intro v; rfl
  | cons g l ih => intro v; rw [show valL (g :: l) v = valL l (v ++ [gval v g]) from rfl, ih]; simp; omega
theorem xor01 {x y : Int} (hx : 0 ≤ x ∧ x ≤ 1) (hy : 0 ≤ y ∧ y ≤ 1) : 0 ≤ bits .xor .i64 x y ∧ bits .xor .i64 x y ≤ 1 := by
  rcases (show x = 0 ∨ x = 1 by omega) with rfl | rfl <;> rcases (show y = 0 ∨ y = 1 by omega) with rfl | rfl <;> decide
theorem and01 {x y : Int} (hx : 0 ≤ x ∧ x ≤ 1) (hy : 0 ≤ y ∧ y ≤ 1) : 0 ≤ bits .and .i64 x y ∧ bits .and .i64 x y ≤ 1 := by
  rcases (show x = 0 ∨ x = 1 by omega) with rfl | rfl <;> rcases (show y = 0 ∨ y = 1 by omega) with rfl | rfl <;> decide
theorem all01_get {xs : List Int} (h : allIn 0 1 xs = true) {k : Nat} {x : Int} (hx : xs[k]? = some x) : 0 ≤ x ∧ x ≤ 1 := allIn_iff.1 h x (List.mem_of_getElem? hx)
theorem all01_snoc {xs : List Int} (h : allIn 0 1 xs = true) {x : Int} (hx : 0 ≤ x ∧ x ≤ 1) : allIn 0 1 (xs ++ [x]) = true := by
  rw [allIn_iff] at h ⊢
  intro y hy
  rcases List.mem_append.1 hy with hy | hy
  · exact h y hy
  · simp at hy; subst hy; exact hx
theorem OwnI.drewN {B : Nat} {w : World} {ao : Option Addr} {n cap : Nat} {xs : List Int} (h : OwnI B w ao n cap xs) (k : Nat) : OwnI B (w.drewN k) ao n cap xs := h
/-- What a valid gate of each kind reads. -/
theorem gate01 {own : Int} {x y z : Int} (h : gateB own (x, y, z) = true) (hx : x = 0 ∨ x = 1) : (0 ≤ y ∧ y < own) ∧ (0 ≤ z ∧ z < own) := by
  have e : (inB y 0 (own - 1) && inB z 0 (own - 1)) = true := by
    rcases hx with rfl | rfl <;> simpa [gateB] using h
  simp only [Bool.and_eq_true, inB_iff] at e
  omega
theorem gate2 {own : Int} {y z : Int} (h : gateB own (2, y, z) = true) : (0 ≤ y ∧ y < own) ∧ z = 0 := by
  have e : (inB y 0 (own - 1) && decide (z = 0)) = true := by simpa [gateB] using h
  simp only [Bool.and_eq_true, inB_iff, decide_eq_true_eq] at e
  omega
end Go.Proofs.Ytilkgidilhgjeaa
