/-
  The language: the reference's width of a line.
-/
import Derived.Test.YtdlddkgmjpmenaaGreatDoorLn2
import Derived.StillTailTactics
import Derived.Deep.RegionHeld3
namespace Go.Proofs.YtdlddkgmjpmenaaGreatDoor
open Go.RowKit
set_option linter.unusedVariables false
set_option linter.unusedSimpArgs false

/-- Widths, or 0. -/
def okZ (ws : List Int) : Prop := ∀ (i : Nat) (x : Int), ws[i]? = some x → 0 ≤ x ∧ x ≤ 10
theorem okZ_at {ws : List Int} (h : okZ ws) (k : Int) : 0 ≤ atN ws k ∧ atN ws k ≤ 10 := by
  unfold atN
  rw [List.getD_eq_getElem?_getD]
  cases hx : ws[k.toNat]? with
  | none => simp
  | some x => simpa using h _ _ hx
theorem okZ_snoc {ws : List Int} (h : okZ ws) {x : Int} (hx : 0 ≤ x ∧ x ≤ 10) : okZ (ws ++ [x]) := by
  intro i y hy
  by_cases hi : i < ws.length
  · rw [List.getElem?_append_left hi] at hy; exact h i y hy
  · rw [List.getElem?_append_right (by omega)] at hy
    rcases Nat.eq_zero_or_pos (i - ws.length) with h0 | h0
    · rw [h0] at hy; simp at hy; subst hy; exact hx
    · rw [List.getElem?_eq_none (by simp; omega)] at hy; cases hy
theorem partsBy_snoc {f : ByteArray → Int} {ws : List Int} : ∀ {ps : List ByteArray} {k : Nat} {p : ByteArray} {v : List Int}, ps[k]? = some p → partsBy f ws (ps.take k) = some v → ¬ f p < 0 → partsBy f ws (ps.take (k + 1)) = some (v ++ [atN ws (f p)])
  | [], k, p, v, h, _, _ => by simp at h
  | q :: r, 0, p, v, h, h2, h3 => by
    simp at h
    subst h
    simp [partsBy] at h2
    subst h2
    simp [partsBy, h3]
  | q :: r, k + 1, p, v, h, h2, h3 => by
    rw [List.take_succ_cons] at h2 ⊢
    unfold partsBy at h2 ⊢
    split at h2
    · cases h2
    · next hq =>
      rw [if_neg hq]
      cases hr : partsBy f ws (r.take k) with
      | none => rw [hr] at h2; simp at h2
      | some u =>
        rw [hr] at h2
        simp at h2
        subst h2
        rw [partsBy_snoc (by simpa using h) hr h3]
        rfl
theorem partsBy_miss {f : ByteArray → Int} {ws : List Int} : ∀ {ps : List ByteArray} {k : Nat} {p : ByteArray}, ps[k]? = some p → f p < 0 → partsBy f ws ps = none
  | [], k, p, h, _ => by simp at h
  | q :: r, 0, p, h, h3 => by
    simp at h
    subst h
    unfold partsBy
    rw [if_pos h3]
  | q :: r, k + 1, p, h, h3 => by
    unfold partsBy
    split
    · rfl
    · rw [partsBy_miss (by simpa using h) h3]; rfl
theorem getL_at {α : Type} {l : List α} {n i : Nat} (h : l.length = n) (hi : i < n) : ∃ x, l[i]? = some x := ⟨l[i]'(by omega), by simp⟩
theorem own_cell {B : Nat} {w : World} {g n cap : Nat} {xs : List Int} (h : OwnI B w (some ⟨g, 0, none⟩) n cap xs) {k : Nat} {x : Int} (hx : xs[k]? = some x) : w.cell? ⟨g, k, none⟩ = some (.int .i64 x) := by
  have hk : k < n := by rw [← h.1]; exact (List.getElem?_eq_some_iff.1 hx).1
  obtain ⟨y, hy, hc⟩ := h.ints.at' hk
  rw [hx] at hy
  simp at hy
  subst hy
  rwa [Nat.zero_add] at hc
theorem own_blk {B : Nat} {w : World} {ao : Option Addr} {n cap : Nat} {xs : List Int} (h : OwnI B w ao n cap xs) (hn : 0 < n) : ∃ g, ao = some ⟨g, 0, none⟩ ∧ B ≤ g ∧ g < w.heap.size := by
  obtain ⟨g, h1, h2, h3, _⟩ := h.2.2.some hn
  exact ⟨g, h1, h2, h3⟩
theorem wrap_pow10m (k : Nat) (hk : k ≤ 10) : wrap64 (wrap64 (2 ^ k) - 1) = 2 ^ k - 1 := by
  have : k = 0 ∨ k = 1 ∨ k = 2 ∨ k = 3 ∨ k = 4 ∨ k = 5 ∨ k = 6 ∨ k = 7 ∨ k = 8 ∨ k = 9 ∨ k = 10 := by omega
  rcases this with rfl | rfl | rfl | rfl | rfl | rfl | rfl | rfl | rfl | rfl | rfl <;> simp [wrap64]
theorem atN_get {ws : List Int} {i : Nat} {v : Int} (h : ws[i]? = some v) : atN ws (i : Int) = v := by simp [atN, List.getD, h]
/-- The cells of the copy whose fields are emptied. -/
def BoxN (W : World) (b : Nat) (nm op : ByteArray) (pv wv vv : Int) : Prop :=
  W.cell? ⟨b, 1, none⟩ = some (.string nm) ∧ W.cell? ⟨b, 2, none⟩ = some (.string op) ∧ W.cell? ⟨b, 4, none⟩ = some (.int .i64 pv) ∧ W.cell? ⟨b, 5, none⟩ = some (.int .i64 wv) ∧ W.cell? ⟨b, 6, none⟩ = some (.int .i64 vv) ∧
  W.frozen? ⟨b, 1, none⟩ = false ∧ W.frozen? ⟨b, 2, none⟩ = false ∧ W.frozen? ⟨b, 4, none⟩ = false ∧ W.frozen? ⟨b, 5, none⟩ = false ∧ W.frozen? ⟨b, 6, none⟩ = false
theorem boxN_new (w : World) (l : Ln) (pa : Option Addr) (pc : Nat) : BoxN (w.alloc (lineObj l pa pc)) w.heap.size l.name l.op l.party l.width l.value := by
  have h := heap_alloc_new w (lineObj l pa pc)
  have c := fun j => cell_of_row (w.alloc (lineObj l pa pc)) w.heap.size j _ _ (0, 0) h
  have f := fun j => frozen_of_row (w.alloc (lineObj l pa pc)) w.heap.size j _ _ h
  refine ⟨?_, ?_, ?_, ?_, ?_, f 1, f 2, f 4, f 5, f 6⟩ <;> rw [c] <;> rfl
theorem BoxN.below {W W' : World} {b C : Nat} {nm op : ByteArray} {pv wv vv : Int} (h : BoxN W b nm op pv wv vv) (hb : Below C W W') (hC : b < C) : BoxN W' b nm op pv wv vv :=
  ⟨(hb.cell (p := ⟨b, 1, none⟩) hC).trans h.1, (hb.cell (p := ⟨b, 2, none⟩) hC).trans h.2.1, (hb.cell (p := ⟨b, 4, none⟩) hC).trans h.2.2.1, (hb.cell (p := ⟨b, 5, none⟩) hC).trans h.2.2.2.1, (hb.cell (p := ⟨b, 6, none⟩) hC).trans h.2.2.2.2.1,
   (hb.frozen (p := ⟨b, 1, none⟩) hC).trans h.2.2.2.2.2.1, (hb.frozen (p := ⟨b, 2, none⟩) hC).trans h.2.2.2.2.2.2.1, (hb.frozen (p := ⟨b, 4, none⟩) hC).trans h.2.2.2.2.2.2.2.1, (hb.frozen (p := ⟨b, 5, none⟩) hC).trans h.2.2.2.2.2.2.2.2.1, (hb.frozen (p := ⟨b, 6, none⟩) hC).trans h.2.2.2.2.2.2.2.2.2⟩
end Go.Proofs.YtdlddkgmjpmenaaGreatDoor
