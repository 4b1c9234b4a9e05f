/-
  The language: which lines results are made of: plain law; the program and the reference.
-/
import Derived.Test.YtdlddkgmjpmenaaGreatDoorHWd
import Derived.Test.YtdlddkgmjpmenaaGreatDoorHLs
namespace Go.Proofs.YtdlddkgmjpmenaaGreatDoor
open Go.RowKit
set_option linter.unusedVariables false
set_option linter.unusedSimpArgs false

/-- A slice of bools that the call owns. -/
def OwnB (B : Nat) (w : World) (ao : Option Addr) (n cap : Nat) (bs : List Bool) : Prop := bs.length = n ∧ n ≤ 1000000000 ∧ OwnC 4 1 B w ao n cap (bs.map Value.bool)
section
variable {w w' : World} {B C : Nat} {ao : Option Addr} {n cap g : Nat} {bs : List Bool}
theorem OwnB.below (h : OwnB B w ao n cap bs) (hb : Below C w w') (hC : w.heap.size ≤ C) : OwnB B w' ao n cap bs := ⟨h.1, h.2.1, h.2.2.below hb hC⟩
theorem OwnB.up (h : OwnB B w ao n cap bs) (hC : C ≤ B) : OwnB C w ao n cap bs := ⟨h.1, h.2.1, h.2.2.up hC⟩
theorem OwnB.rowLt (h : OwnB B w ao n cap bs) : ∀ k, rowOf ao cap = .some k → B ≤ k ∧ k < w.heap.size := h.2.2.rowLt
theorem OwnB.other {row : Option Nat} (h : OwnB B w ao n cap bs) (hg : w.grownBy w' row) (hne : ∀ k l, rowOf ao cap = .some k → row = .some l → k ≠ l) : OwnB B w' ao n cap bs := by
  refine ⟨h.1, h.2.1, h.2.2.kept hg fun g hao hc he => ?_⟩
  subst hao
  exact hne g g (by simp [rowOf, hc]) he rfl
theorem OwnB.blk (h : OwnB B w ao n cap bs) (hn : 0 < n) : ∃ g, ao = some ⟨g, 0, none⟩ ∧ B ≤ g ∧ g < w.heap.size := by
  obtain ⟨g, h1, h2, h3, _⟩ := h.2.2.some hn
  exact ⟨g, h1, h2, h3⟩
theorem OwnB.set (h : OwnB B w (some ⟨g, 0, none⟩) n cap bs) {k : Nat} (hk : k < n) (v : Bool) :
    OwnB B (w.setCell ⟨g, k, none⟩ (.bool v)) (some ⟨g, 0, none⟩) n cap (bs.set k v) ∧ w.grownBy (w.setCell ⟨g, k, none⟩ (.bool v)) (rowOf (some ⟨g, 0, none⟩) cap) ∧ w.frozen? ⟨g, k, none⟩ = false ∧ w.cell? ⟨g, k, none⟩ = some (.bool (bs.getD k false)) := by
  obtain ⟨g', hg', _, _, hr⟩ := h.2.2.some (by omega)
  simp at hg'
  subst hg'
  have hcap : cap ≠ 0 := by
    rcases hr.2 with ⟨hv, h0⟩ | ⟨g2, cap2, cur, hv, _, _, hn', _⟩
    · omega
    · simp only [Value.slice.injEq] at hv
      obtain ⟨_, _, rfl⟩ := hv
      omega
  have hst := World.ownsRow.stored hr k (.bool v)
  rw [← List.map_set] at hst
  refine ⟨⟨by simp [h.1], h.2.1, .inr ⟨g, rfl, hst.1⟩⟩, by simpa [rowOf, hcap] using hst.2, World.ownsRow.frozenAt hr k, ?_⟩
  rw [World.ownsRow.cellAt hr k (by omega)]
  have : k < bs.length := by rw [h.1]; exact hk
  simp [List.getD, this]
end

theorem OwnB.cell {B : Nat} {w : World} {g n cap : Nat} {bs : List Bool} (h : OwnB B w (some ⟨g, 0, none⟩) n cap bs) {k : Nat} {x : Bool} (hx : bs[k]? = some x) : w.cell? ⟨g, k, none⟩ = some (.bool x) := by
  have hk : k < n := by rw [← h.1]; exact (List.getElem?_eq_some_iff.1 hx).1
  obtain ⟨_, _, _, hc⟩ := h.set hk true
  rw [hc]
  simp [List.getD, hx]
theorem bool_info : (Tryz.prog.info? 4).map (fun i => (i.zero, i.size, i.bytes)) = some (some (.bool false), 1, 1) := by kernel_rfl
theorem made_bools {B : Nat} {w : World} {b n : Nat} (hn : n ≤ 1000000000) (h : w.ownsRow B 4 1 (.slice (some ⟨b, 0, none⟩) n n) n (madeCells (Value.bool false).cells (n * 1)).toList) : OwnB B w (some ⟨b, 0, none⟩) n n (List.replicate n false) := by
  rw [show (Value.bool false).cells = #[.bool false] from rfl, toList_madeCells_one, Nat.mul_one] at h
  exact ⟨by simp, hn, .inr ⟨_, rfl, by simpa using h⟩⟩

/-- The lines of these names are marked. -/
def markP (ls : List Ln) (bs : List Bool) (ps : List ByteArray) : List Bool := ps.foldl (fun b p => b.set (findF ls p).toNat true) bs
theorem markP_snoc {ls : List Ln} {bs : List Bool} {ps : List ByteArray} {k : Nat} {p : ByteArray} (h : ps[k]? = some p) : markP ls bs (ps.take (k + 1)) = (markP ls bs (ps.take k)).set (findF ls p).toNat true := by
  unfold markP
  rw [List.take_add_one, h, List.foldl_append]; rfl
def isOut (x : Ln) : Bool := x.kind == 6
def stepN (ls : List Ln) (bs : List Bool) (i : Nat) : List Bool :=
  match ls[i]? with
  | none => bs
  | some x => if (isOut x || bs.getD i false) = true then markP ls bs x.parts else bs
/-- Behind the last t lines. -/
def ndL (ls : List Ln) : Nat → List Bool
  | 0 => List.replicate ls.length false
  | t + 1 => stepN ls (ndL ls t) (ls.length - 1 - t)
theorem markP_length (ls : List Ln) : ∀ (ps : List ByteArray) (bs : List Bool), (markP ls bs ps).length = bs.length
  | [], bs => rfl
  | p :: ps, bs => by
    show (markP ls (bs.set _ true) ps).length = _
    rw [markP_length ls ps]; simp
theorem stepN_length (ls : List Ln) (bs : List Bool) (i : Nat) : (stepN ls bs i).length = bs.length := by
  unfold stepN
  split
  · rfl
  · split
    · exact markP_length _ _ _
    · rfl
theorem ndL_length (ls : List Ln) : ∀ t, (ndL ls t).length = ls.length
  | 0 => by simp [ndL]
  | t + 1 => by rw [ndL, stepN_length, ndL_length ls t]
theorem find_take {p : Ln → Bool} {ls : List Ln} {k i : Nat} (h : (ls.take k).findIdx? p = some i) : ∃ j, ls.findIdx? p = some j := by
  cases hf : ls.findIdx? p with
  | some j => exact ⟨j, rfl⟩
  | none =>
    rw [List.findIdx?_eq_none_iff] at hf
    rw [List.findIdx?_eq_some_iff_getElem] at h
    obtain ⟨hi, hp, _⟩ := h
    have := hf _ (List.mem_of_mem_take (List.getElem_mem hi))
    rw [this] at hp
    cases hp
theorem parts_found {f : ByteArray → Int} {ws : List Int} : ∀ {ps : List ByteArray} {w : List Int}, partsBy f ws ps = some w → ∀ p ∈ ps, ¬ f p < 0
  | [], _, _, p, hp => by simp at hp
  | q :: r, w, h, p, hp => by
    unfold partsBy at h
    split at h
    · cases h
    · next hq =>
      cases hr : partsBy f ws r with
      | none => rw [hr] at h; simp at h
      | some v =>
        rcases List.mem_cons.1 hp with rfl | hp
        · exact hq
        · exact parts_found hr p hp
/-- In a program each part of a line is the name of a line. -/
theorem good_part {ls : List Ln} (hg : laGoodF ls = true) {k : Nat} {x : Ln} (h : ls[k]? = some x) {p : ByteArray} (hp : p ∈ x.parts) : 0 ≤ findF ls p ∧ findF ls p < ls.length := by
  have hok := ((widths_good ls).2 hg).2
  have h1 := laWidths_get h
  have h2 := hok.2.1 k _ h1
  refine ⟨?_, (findF_range ls p).2⟩
  unfold laWidth at h2
  split at h2
  · omega
  · next w hw =>
    have h3 := parts_found hw p hp
    unfold findF at h3 ⊢
    cases hf : (ls.take k).findIdx? (findB p) with
    | none => rw [hf] at h3; simp at h3
    | some i =>
      obtain ⟨j, hj⟩ := find_take hf
      rw [hj]; simp
/-- Only lines with a name are marked. -/
def named (ls : List Ln) (bs : List Bool) : Prop := ∀ (j : Nat) (x : Ln), bs.getD j false = true → ls[j]? = some x → isOut x = false
theorem find_named {ls : List Ln} {p : ByteArray} {j : Nat} {x : Ln} (h : (findF ls p).toNat = j) (h0 : 0 ≤ findF ls p) (hx : ls[j]? = some x) : isOut x = false := by
  unfold findF at h h0
  split at h
  · next i hi =>
    rw [List.findIdx?_eq_some_iff_getElem] at hi
    obtain ⟨hlt, hp, _⟩ := hi
    have : i = j := by simpa using h
    subst this
    rw [List.getElem?_eq_getElem hlt] at hx
    simp only [Option.some.injEq] at hx
    subst hx
    unfold findB at hp
    simp only [Bool.and_eq_true, bne_iff_ne] at hp
    simp [isOut, hp.1]
  · next hn => rw [hn] at h0; simp at h0
theorem named_set {ls : List Ln} {bs : List Bool} (hb : named ls bs) {p : ByteArray} (h0 : 0 ≤ findF ls p) : named ls (bs.set (findF ls p).toNat true) := by
  intro j x hj hx
  by_cases he : (findF ls p).toNat = j
  · exact find_named he h0 hx
  · refine hb j x ?_ hx
    rw [List.getD_eq_getElem?_getD, List.getElem?_set_ne he] at hj
    rwa [List.getD_eq_getElem?_getD]
theorem named_markP {ls : List Ln} : ∀ {ps : List ByteArray} {bs : List Bool}, named ls bs → (∀ p ∈ ps, 0 ≤ findF ls p) → named ls (markP ls bs ps)
  | [], bs, h, _ => h
  | p :: ps, bs, h, hp => by
    show named ls (markP ls (bs.set _ true) ps)
    exact named_markP (named_set h (hp p (by simp))) fun q hq => hp q (by simp [hq])
theorem named_nd {ls : List Ln} (hg : laGoodF ls = true) : ∀ t, named ls (ndL ls t)
  | 0 => by
    intro j x hj _
    exfalso
    simp only [ndL, List.getD_eq_getElem?_getD, List.getElem?_replicate] at hj
    split at hj <;> simp at hj
  | t + 1 => by
    have ih := named_nd hg t
    rw [ndL]
    unfold stepN
    split
    · exact ih
    · next x hx =>
      split
      · exact named_markP ih fun p hp => (good_part hg hx hp).1
      · exact ih
/-- The reference's list behind some lines: lines from i on that are results are marked besides. -/
def mixL (ls : List Ln) (bs : List Bool) (i : Nat) : List Bool := (List.range ls.length).map fun j => bs.getD j false || (decide (i ≤ j) && (ls[j]?.map isOut).getD false)
theorem mixL_length (ls : List Ln) (bs : List Bool) (i : Nat) : (mixL ls bs i).length = ls.length := by simp [mixL]
theorem mixL_get {ls : List Ln} {bs : List Bool} {i j : Nat} (hj : j < ls.length) : (mixL ls bs i)[j]? = some (bs.getD j false || (decide (i ≤ j) && (ls[j]?.map isOut).getD false)) := by simp [mixL, hj]
theorem mixL_full (ls : List Ln) : mixL ls (List.replicate ls.length false) ls.length = List.replicate ls.length false := by
  apply List.ext_getElem?
  intro j
  by_cases hj : j < ls.length
  · rw [mixL_get hj, List.getElem?_replicate, if_pos hj]
    simp [List.getD_eq_getElem?_getD, List.getElem?_replicate, hj, show ¬ ls.length ≤ j by omega]
  · rw [List.getElem?_eq_none (by rw [mixL_length]; omega), List.getElem?_eq_none (by simp; omega)]
theorem mixL_set {ls : List Ln} {bs : List Bool} {i f : Nat} (hb : bs.length = ls.length) (hf : f < ls.length) : (mixL ls bs i).set f true = mixL ls (bs.set f true) i := by
  apply List.ext_getElem?
  intro j
  by_cases hj : j < ls.length
  · rw [mixL_get hj, List.getElem?_set, List.getD_eq_getElem?_getD, List.getElem?_set]
    by_cases he : f = j
    · subst he
      rw [if_pos rfl, if_pos (by rw [mixL_length]; exact hf), if_pos rfl, if_pos (by omega)]
      simp
    · rw [if_neg he, if_neg he, mixL_get hj, List.getD_eq_getElem?_getD]
  · rw [List.getElem?_eq_none (by simp [mixL_length]; omega), List.getElem?_eq_none (by rw [mixL_length]; omega)]
theorem mixL_here {ls : List Ln} {bs : List Bool} {i : Nat} {x : Ln} (hi : i < ls.length) (hx : ls[i]? = some x) : (mixL ls bs (i + 1)).set i (bs.getD i false || isOut x) = mixL ls bs i := by
  apply List.ext_getElem?
  intro j
  by_cases hj : j < ls.length
  · rw [mixL_get hj, List.getElem?_set]
    by_cases he : i = j
    · subst he
      rw [if_pos rfl, if_pos (by rw [mixL_length]; exact hi), hx]
      simp
    · rw [if_neg he, mixL_get hj]
      have : decide (i + 1 ≤ j) = decide (i ≤ j) := by simp; omega
      rw [this]
  · rw [List.getElem?_eq_none (by simp [mixL_length]; omega), List.getElem?_eq_none (by rw [mixL_length]; omega)]
/-- The names of the marked lines. -/
def namesL (ls : List Ln) (bs : List Bool) : List ByteArray := ((ls.zip bs).filter fun x => x.2).map (·.1.name)
theorem namesL_step {ls : List Ln} {bs : List Bool} {k : Nat} {l : Ln} {v : Bool} (h : ls[k]? = some l) (hv : bs[k]? = some v) (hk : k ≤ ls.length) (hk2 : k ≤ bs.length) : namesL (ls.take (k + 1)) (bs.take (k + 1)) = namesL (ls.take k) (bs.take k) ++ (if v = true then [l.name] else []) := by
  unfold namesL
  rw [List.take_add_one, h, List.take_add_one, hv, List.zip_append (by simp; omega), List.filter_append, List.map_append]
  congr 1
  cases hb : v
  · simp [hb]
  · simp [hb]
def namesF (ls : List Ln) : List ByteArray × Bool := if laGoodF ls = true then (namesL ls (ndL ls ls.length), true) else ([], false)
end Go.Proofs.YtdlddkgmjpmenaaGreatDoor
/-
  The language: which lines results are made of: the program and the reference walked.
-/
namespace Go.Proofs.YtdlddkgmjpmenaaGreatDoor
open Go.RowKit
set_option linter.unusedVariables false
set_option linter.unusedSimpArgs false

def RetNd (bs : List Bool) (n : Nat) (w : World) (e : Ending) (w' : World) : Prop := ∃ g, e = .returned (.slice (some ⟨g, 0, none⟩) n n) ∧ OwnB w.heap.size w' (some ⟨g, 0, none⟩) n n bs ∧ Below w.heap.size w w'
theorem row_ltB {w : World} {B g n : Nat} {cs : List Value} (h : w.ownsRow B 4 1 (.slice (some ⟨g, 0, none⟩) n n) n cs) : g < w.heap.size := by
  rcases h.2 with ⟨h0, _⟩ | ⟨g', cap', cur, hv, _, hb, _⟩
  · cases h0
  · cases hv
    exact (Array.getElem?_eq_some_iff.1 hb).1
theorem OwnB.drewN {B : Nat} {w : World} {ao : Option Addr} {n cap : Nat} {bs : List Bool} (h : OwnB B w ao n cap bs) (k : Nat) : OwnB B (w.drewN k) ao n cap bs := h
theorem below_setB {B g n : Nat} {w w' : World} {bs : List Bool} (hb : Below B w w') (ho : OwnB B w' (some ⟨g, 0, none⟩) n n bs) {k : Nat} (hk : k < n) (v : Bool) (hB : B ≤ w'.heap.size) : Below B w (w'.setCell ⟨g, k, none⟩ (.bool v)) :=
  hb.grown (ho.set hk v).2.1 hB fun q hq => (ho.rowLt q hq).1
end Go.Proofs.YtdlddkgmjpmenaaGreatDoor
/-
  The language: which lines results are made of: the reference walked.
-/
namespace Go.Proofs.YtdlddkgmjpmenaaGreatDoor
open Go.RowKit
set_option linter.unusedVariables false
set_option linter.unusedSimpArgs false

theorem mixL_at {ls : List Ln} {bs : List Bool} {i : Nat} {x : Ln} (hi : i < ls.length) (hx : ls[i]? = some x) : (mixL ls bs i).getD i false = (bs.getD i false || isOut x) := by
  rw [List.getD_eq_getElem?_getD, mixL_get hi, hx]; simp
theorem mixL_next {ls : List Ln} {bs : List Bool} {i : Nat} (hi : i < ls.length) : (mixL ls bs (i + 1)).getD i false = bs.getD i false := by
  rw [List.getD_eq_getElem?_getD, mixL_get hi]; simp
  intro h; omega
theorem set_keeps {bs : List Bool} {f q : Nat} {c : Bool} (h : (bs.getD q false || c) = true) : ((bs.set f true).getD q false || c) = true := by
  by_cases he : f = q
  · subst he
    by_cases hl : f < bs.length
    · rw [List.getD_eq_getElem?_getD, List.getElem?_set, if_pos rfl, if_pos hl]; rfl
    · rw [List.set_eq_of_length_le (by omega)]; exact h
  · rw [List.getD_eq_getElem?_getD, List.getElem?_set_ne he, ← List.getD_eq_getElem?_getD]; exact h
end Go.Proofs.YtdlddkgmjpmenaaGreatDoor
