/-
  Circuits: the wires that are used.
-/
import Derived.Test.YtilkgidilhgjeaaUsed1
namespace Go.Proofs.Ytilkgidilhgjeaa
open Go.RowKit
set_option linter.unusedVariables false
set_option linter.unusedSimpArgs false

/-- A slice of bools that the call owns. -/
def OwnB (B : Nat) (w : World) (ao : Option Addr) (n cap : Nat) (bs : List Bool) : Prop := bs.length = n ∧ n ≤ 1000000000 ∧ OwnC 4 1 B w ao n cap (bs.map Value.bool)
section
variable {w w' : World} {B C : Nat} {ao : Option Addr} {n cap g : Nat} {bs : List Bool}
theorem OwnB.below (h : OwnB B w ao n cap bs) (hb : Below C w w') (hC : w.heap.size ≤ C) : OwnB B w' ao n cap bs := ⟨h.1, h.2.1, h.2.2.below hb hC⟩
theorem OwnB.up (h : OwnB B w ao n cap bs) (hC : C ≤ B) : OwnB C w ao n cap bs := ⟨h.1, h.2.1, h.2.2.up hC⟩
theorem OwnB.rowLt (h : OwnB B w ao n cap bs) : ∀ k, rowOf ao cap = .some k → B ≤ k ∧ k < w.heap.size := h.2.2.rowLt
theorem OwnB.other {row : Option Nat} (h : OwnB B w ao n cap bs) (hg : w.grownBy w' row) (hne : ∀ k l, rowOf ao cap = .some k → row = .some l → k ≠ l) : OwnB B w' ao n cap bs := by
  refine ⟨h.1, h.2.1, h.2.2.kept hg fun g hao hc he => ?_⟩
  subst hao
  exact hne g g (by simp [rowOf, hc]) he rfl
theorem OwnB.blk (h : OwnB B w ao n cap bs) (hn : 0 < n) : ∃ g, ao = some ⟨g, 0, none⟩ ∧ B ≤ g ∧ g < w.heap.size := by
  obtain ⟨g, h1, h2, h3, _⟩ := h.2.2.some hn
  exact ⟨g, h1, h2, h3⟩
theorem OwnB.set (h : OwnB B w (some ⟨g, 0, none⟩) n cap bs) {k : Nat} (hk : k < n) (v : Bool) :
    OwnB B (w.setCell ⟨g, k, none⟩ (.bool v)) (some ⟨g, 0, none⟩) n cap (bs.set k v) ∧ w.grownBy (w.setCell ⟨g, k, none⟩ (.bool v)) (rowOf (some ⟨g, 0, none⟩) cap) ∧ w.frozen? ⟨g, k, none⟩ = false ∧ w.cell? ⟨g, k, none⟩ = some (.bool (bs.getD k false)) := by
  obtain ⟨g', hg', _, _, hr⟩ := h.2.2.some (by omega)
  simp at hg'
  subst hg'
  have hcap : cap ≠ 0 := by
    rcases hr.2 with ⟨hv, h0⟩ | ⟨g2, cap2, cur, hv, _, _, hn', _⟩
    · omega
    · simp only [Value.slice.injEq] at hv
      obtain ⟨_, _, rfl⟩ := hv
      omega
  have hst := World.ownsRow.stored hr k (.bool v)
  rw [← List.map_set] at hst
  refine ⟨⟨by simp [h.1], h.2.1, .inr ⟨g, rfl, hst.1⟩⟩, by simpa [rowOf, hcap] using hst.2, World.ownsRow.frozenAt hr k, ?_⟩
  rw [World.ownsRow.cellAt hr k (by omega)]
  have : k < bs.length := by rw [h.1]; exact hk
  simp [List.getD, this]
end

theorem OwnB.cell {B : Nat} {w : World} {g n cap : Nat} {bs : List Bool} (h : OwnB B w (some ⟨g, 0, none⟩) n cap bs) {k : Nat} {x : Bool} (hx : bs[k]? = some x) : w.cell? ⟨g, k, none⟩ = some (.bool x) := by
  have hk : k < n := by rw [← h.1]; exact (List.getElem?_eq_some_iff.1 hx).1
  obtain ⟨_, _, _, hc⟩ := h.set hk true
  rw [hc]
  simp [List.getD, hx]
theorem bool_info : (Try.prog.info? 4).map (fun i => (i.zero, i.size, i.bytes)) = some (some (.bool false), 1, 1) := by kernel_rfl
theorem made_bools {B : Nat} {w : World} {b n : Nat} (hn : n ≤ 1000000000) (h : w.ownsRow B 4 1 (.slice (some ⟨b, 0, none⟩) n n) n (madeCells (Value.bool false).cells (n * 1)).toList) : OwnB B w (some ⟨b, 0, none⟩) n n (List.replicate n false) := by
  rw [show (Value.bool false).cells = #[.bool false] from rfl, toList_madeCells_one, Nat.mul_one] at h
  exact ⟨by simp, hn, .inr ⟨_, rfl, by simpa using h⟩⟩
/-- One gate marks its parts, if it is marked. -/
def markG (m : List Bool) (own : Nat) (g : Int × Int × Int) : List Bool :=
  if m.getD own false = true then (if g.1 = 0 ∨ g.1 = 1 then (m.set g.2.1.toNat true).set g.2.2.toNat true else if g.1 = 2 then m.set g.2.1.toNat true else m) else m
theorem markG_length (m : List Bool) (own : Nat) (g : Int × Int × Int) : (markG m own g).length = m.length := by
  unfold markG; split <;> (try split) <;> (try split) <;> simp
def backK (l : List (Int × Int × Int)) (n0 : Nat) : Nat → List Bool → List Bool
  | 0, m => m
  | k + 1, m => backK l n0 k (markG m (n0 + k) (l.getD k (0, 0, 0)))
def outsM (n : Nat) (os : List Int) : List Bool := os.foldl (fun m i => m.set i.toNat true) (List.replicate n false)
theorem outsM_step {n : Nat} {os : List Int} {k : Nat} {x : Int} (h : os[k]? = some x) : outsM n (os.take (k + 1)) = (outsM n (os.take k)).set x.toNat true := by
  rw [outsM, outsM, List.take_add_one, h]; simp [List.foldl_append]
theorem outsM_length (n : Nat) (os : List Int) : (outsM n os).length = n := by
  have : ∀ (os : List Int) (m : List Bool), (os.foldl (fun m i => m.set i.toNat true) m).length = m.length := by
    intro os
    induction os with
    | nil => intro m; rfl
    | cons x r ih => intro m; rw [List.foldl_cons, ih]; simp
  rw [outsM, this]; simp
def usedM (n0 : Nat) (l : List (Int × Int × Int)) (os : List Int) : List Bool := backK l n0 l.length (outsM (n0 + l.length) os)
theorem tp_false (k : Int) (n : Nat) : tp k (List.replicate n false) = [] := by
  induction n generalizing k with
  | zero => rfl
  | succ n ih => simp [List.replicate_succ, tp, ih]
theorem tp_length : ∀ (k : Int) (m : List Bool), (tp k m).length ≤ m.length
  | _, [] => by simp [tp]
  | k, b :: r => by
    have := tp_length (k + 1) r
    cases b <;> simp [tp] <;> omega
theorem tp_snoc : ∀ (m : List Bool) (k : Int) (b : Bool), tp k (m ++ [b]) = tp k m ++ (if b = true then [k + m.length] else [])
  | [], k, b => by cases b <;> simp [tp]
  | c :: r, k, b => by
    have ih := tp_snoc r (k + 1) b
    cases c
    · simp only [List.cons_append, tp, Bool.false_eq_true, if_false, ih, List.length_cons]
      rw [show k + 1 + (r.length : Int) = k + ((r.length + 1 : Nat) : Int) from by omega]
    · simp only [List.cons_append, tp, if_true, ih, List.length_cons]
      rw [show k + 1 + (r.length : Int) = k + ((r.length + 1 : Nat) : Int) from by omega]
theorem tp_take {m : List Bool} {j : Nat} {b : Bool} (h : m[j]? = some b) : tp 0 (m.take (j + 1)) = tp 0 (m.take j) ++ (if b = true then [(j : Int)] else []) := by
  have hj : j < m.length := (List.getElem?_eq_some_iff.1 h).1
  rw [List.take_add_one, h]
  rw [show (some b).toList = [b] from rfl, tp_snoc]
  simp [show min j m.length = j by omega]
def RetBs (bs : List Bool) (w : World) (e : Ending) (w' : World) : Prop := ∃ ao n cap, e = .returned (.slice ao n cap) ∧ OwnB w.heap.size w' ao n cap bs ∧ Below w.heap.size w w'
theorem OwnB.le {B : Nat} {w : World} {ao : Option Addr} {n cap : Nat} {bs : List Bool} (h : OwnB B w ao n cap bs) : n ≤ 1000000000 := h.2.1
end Go.Proofs.Ytilkgidilhgjeaa
