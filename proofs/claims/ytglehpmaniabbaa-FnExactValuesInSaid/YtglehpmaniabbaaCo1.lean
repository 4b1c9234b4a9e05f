/-
  The language: the numbers of lines of all operations: plain law; the reference.
-/
import Derived.Test.YtglehpmaniabbaaWd1
import Derived.Test.YtglehpmaniabbaaFlat
namespace Go.Proofs.Ytglehpmaniabbaa
open Go.RowKit
set_option linter.unusedVariables false
set_option linter.unusedSimpArgs false

/-- The place of an operation. -/
def opIdx (op : ByteArray) : Nat := (opsL.findIdx? (fun o => o == op)).getD 8
def slotOf (x : Ln) : Option Nat := if x.kind = 3 then some (opIdx x.op) else if x.kind = 4 then some 8 else if x.kind = 5 then some 9 else none
def bump (l : List Int) (i : Nat) : List Int := l.set i (l.getD i 0 + 1)
def countStep (l : List Int) (x : Ln) : List Int := match slotOf x with | some i => bump l i | none => l
def countsOf (ls : List Ln) : List Int := ls.foldl countStep (List.replicate 10 0)
def countOpsF (ls : List Ln) : List Int × Bool := if laGoodF ls = true then (countsOf ls, true) else ([], false)
theorem countsOf_step {ls : List Ln} {k : Nat} {x : Ln} (h : ls[k]? = some x) : countsOf (ls.take (k + 1)) = countStep (countsOf (ls.take k)) x := by
  unfold countsOf
  rw [List.take_add_one, h, List.foldl_append]; rfl
theorem bump_length (l : List Int) (i : Nat) : (bump l i).length = l.length := by simp [bump]
theorem countStep_length (l : List Int) (x : Ln) : (countStep l x).length = l.length := by unfold countStep; split <;> simp [bump_length]
def boundC (l : List Int) (k : Nat) : Prop := ∀ (i : Nat) (v : Int), l[i]? = some v → 0 ≤ v ∧ v ≤ k
theorem bound_bump {l : List Int} {k : Nat} (h : boundC l k) (i : Nat) : boundC (bump l i) (k + 1) := by
  intro j v hv
  unfold bump at hv
  rw [List.getElem?_set] at hv
  split at hv
  · next e =>
    split at hv
    · next hlt =>
      simp only [Option.some.injEq] at hv
      have e2 : l[i]? = some (l.getD i 0) := by rw [List.getD_eq_getElem?_getD, List.getElem?_eq_getElem hlt]; rfl
      have := h i _ e2
      omega
    · cases hv
  · have := h j v hv; omega
theorem bound_mono {l : List Int} {k : Nat} (h : boundC l k) : boundC l (k + 1) := fun i v hv => by have := h i v hv; omega
theorem bound_step {l : List Int} {k : Nat} (h : boundC l k) (x : Ln) : boundC (countStep l x) (k + 1) := by
  unfold countStep
  split
  · exact bound_bump h _
  · exact bound_mono h
theorem good_op {ls : List Ln} (hg : laGoodF ls = true) {k : Nat} {x : Ln} (h : ls[k]? = some x) (hk : x.kind = 3) : opsL.contains x.op = true := by
  have hok := ((widths_good ls).2 hg).2
  have h1 := laWidths_get h
  have h2 := hok.2.1 k _ h1
  unfold laWidth at h2
  split at h2
  · omega
  split at h2
  · omega
  split at h2
  · omega
  unfold kindW at h2
  rw [if_neg (by omega), if_neg (by omega), if_pos hk] at h2
  unfold laTwo at h2
  split at h2
  · omega
  · next g => cases hc : opsL.contains x.op
              · simp [hc] at g
                exact absurd g.2.1 (by simpa using hc)
              · rfl
/-- A valid operation: its place, the only one. -/
theorem op_place {op : ByteArray} (h : opsL.contains op = true) : ∃ c i, op = opB c ∧ i < 8 ∧ opIdx op = i ∧ Lib.indexByte opsBytes c = (i : Int) ∧ ∀ j o, opsL[j]? = some o → ((op == o) = decide (j = i)) := by
  have key : ∀ (c : UInt8) (i : Nat), i < 8 → (opsL.findIdx? (fun o => o == opB c)).getD 8 = i → Lib.indexByte opsBytes c = (i : Int) → (∀ j, j < 8 → (opsBytes[j]? = some c ↔ j = i)) → ∃ c' i, opB c = opB c' ∧ i < 8 ∧ opIdx (opB c) = i ∧ Lib.indexByte opsBytes c' = (i : Int) ∧ ∀ j o, opsL[j]? = some o → ((opB c == o) = decide (j = i)) := by
    intro c i hi h1 h2 h3
    refine ⟨c, i, rfl, hi, h1, h2, fun j o ho => ?_⟩
    have hj : j < 8 := (List.getElem?_eq_some_iff.1 ho).1
    have e : opsL[j]? = (opsBytes[j]?).map opB := by
      have : opsL = opsBytes.map opB := rfl
      rw [this, List.getElem?_map]
    rw [e] at ho
    obtain ⟨d, hd⟩ : ∃ d, opsBytes[j]? = some d := ⟨opsBytes[j]'hj, List.getElem?_eq_getElem hj⟩
    rw [hd] at ho
    simp only [Option.map_some, Option.some.injEq] at ho
    subst ho
    rw [opB_beq]
    have h4 := h3 j hj
    rw [hd] at h4
    simp only [Option.some.injEq] at h4
    by_cases hji : j = i
    · rw [h4.2 hji, hji]; simp
    · have : c ≠ d := fun e => hji (h4.1 e.symm)
      simp [this, hji]
  rcases ops_cases h with rfl | (rfl | rfl) | (rfl | rfl | rfl | rfl | rfl)
  · exact key 42 2 (by decide) (by simp [opsL, opB_beq]; rfl) (by decide) (by decide)
  · exact key 60 3 (by decide) (by simp [opsL, opB_beq]; rfl) (by decide) (by decide)
  · exact key 61 4 (by decide) (by simp [opsL, opB_beq]; rfl) (by decide) (by decide)
  · exact key 43 0 (by decide) (by simp [opsL, opB_beq]; rfl) (by decide) (by decide)
  · exact key 45 1 (by decide) (by simp [opsL, opB_beq]; rfl) (by decide) (by decide)
  · exact key 38 5 (by decide) (by simp [opsL, opB_beq]; rfl) (by decide) (by decide)
  · exact key 124 6 (by decide) (by simp [opsL, opB_beq]; rfl) (by decide) (by decide)
  · exact key 94 7 (by decide) (by simp [opsL, opB_beq]; rfl) (by decide) (by decide)
theorem indexOps_any (c : UInt8) (w : World) :
    Calls Try.prog 54 #[.string ⟨#[43, 45, 42, 60, 61, 38, 124, 94]⟩, .string ⟨#[c]⟩] w fun e w' => e = .returned (.int .i64 (Lib.indexByte opsBytes c)) ∧ w = w' :=
  sindex1_any _ _ _
/-- The row of counts: its cells may be read and written. -/
theorem row_at {w : World} {B g : Nat} {cur : List Int} (h : w.ownsRow B 3 1 (.slice (some ⟨g, 0, none⟩) 10 10) 10 (cur.map (Value.int .i64))) {i : Nat} (hi : i < 10) :
    cur[i]? = some (cur.getD i 0) ∧ w.cell? ⟨g, i, none⟩ = some (.int .i64 (cur.getD i 0)) ∧ w.frozen? ⟨g, i, none⟩ = false ∧
    (w.setCell ⟨g, i, none⟩ (.int .i64 (cur.getD i 0 + 1))).ownsRow B 3 1 (.slice (some ⟨g, 0, none⟩) 10 10) 10 ((bump cur i).map (Value.int .i64)) ∧ w.grownBy (w.setCell ⟨g, i, none⟩ (.int .i64 (cur.getD i 0 + 1))) (some g) := by
  have hl : cur.length = 10 := by have := h.1; simpa using this
  have e : cur[i]? = some (cur.getD i 0) := by rw [List.getD_eq_getElem?_getD, List.getElem?_eq_getElem (by omega)]; rfl
  have hst := World.ownsRow.stored h i (.int .i64 (cur.getD i 0 + 1))
  rw [← List.map_set] at hst
  refine ⟨e, ?_, World.ownsRow.frozenAt h i, hst.1, hst.2⟩
  rw [World.ownsRow.cellAt h i (by omega), List.getElem?_map, e]; rfl
theorem row_own {w : World} {B g : Nat} {cur : List Int} (h : w.ownsRow B 3 1 (.slice (some ⟨g, 0, none⟩) 10 10) 10 (cur.map (Value.int .i64))) : OwnI B w (some ⟨g, 0, none⟩) 10 10 cur :=
  ⟨by have := h.1; simpa using this, by decide, .inr ⟨g, rfl, h⟩⟩
def opsAt (b : Nat) : Option Addr := some ⟨b, 0, none⟩
theorem laOps3_any (w : World) : Calls Try.prog 55 #[] w fun e w' => e = .returned (.slice (opsAt w.heap.size) 8 8) ∧ w.heap.size < w'.heap.size ∧ (∀ j o, opsL[j]? = some o → w'.cell? ⟨w.heap.size, j, none⟩ = some (.string o)) ∧ Below w.heap.size w w' := by
  have hb0 : Below w.heap.size w (w.alloc opsObj) := (Below.refl _ _).alloc (Nat.le_refl _) _
  have hS : ∀ j o, opsL[j]? = some o → (w.alloc opsObj).cell? ⟨w.heap.size, j, none⟩ = some (.string o) := by
    intro j o ho
    rw [cell_of_row _ w.heap.size j _ _ (0, 0) (heap_alloc_new w opsObj)]
    have : (opsL.map Value.string)[j]? = some (.string o) := by rw [List.getElem?_map, ho]; rfl
    simpa [opsL, opB] using this
  have hz : w.heap.size < (w.alloc opsObj).heap.size := by simp
  unfold opsObj at hS hb0 hz
  go_enter Try.func55, Try.ntmps55
  go_wp2
  go_ret
  exact ⟨rfl, hz, hS, hb0⟩
end Go.Proofs.Ytglehpmaniabbaa
