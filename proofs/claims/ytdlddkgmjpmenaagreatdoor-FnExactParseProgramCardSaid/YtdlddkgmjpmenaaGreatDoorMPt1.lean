/-
  Texts of programs: what a line of a valid program is, and its text.
-/
import Derived.Test.YtdlddkgmjpmenaaGreatDoorPt0
import Derived.Test.YtdlddkgmjpmenaaGreatDoorGNd
namespace Go.Proofs.YtdlddkgmjpmenaaGreatDoor
open Go.RowKit
set_option linter.unusedVariables false
set_option linter.unusedSimpArgs false

theorem partsBy_length {f : ByteArray → Int} {ws : List Int} : ∀ {ps : List ByteArray} {w : List Int}, partsBy f ws ps = some w → w.length = ps.length
  | [], w, h => by simp [partsBy] at h; rw [h]; rfl
  | q :: r, w, h => by
    unfold partsBy at h
    split at h
    · cases h
    · cases hr : partsBy f ws r with
      | none => rw [hr] at h; simp at h
      | some v =>
        rw [hr] at h
        simp at h
        rw [← h, List.length_cons, List.length_cons, partsBy_length hr]
theorem pow_le_10 {n : Nat} (h : n ≤ 10) : (2 : Int) ^ n ≤ 1024 := by
  have := Nat.pow_le_pow_right (n := 2) (by decide) h
  have h2 : ((2 ^ n : Nat) : Int) ≤ ((2 ^ 10 : Nat) : Int) := by exact_mod_cast this
  simpa using h2
theorem line_good {ls : List Ln} (hg : laGoodF ls = true) {k : Nat} {x : Ln} (h : ls[k]? = some x) :
    (x.parts.length : Int) = laParts x.kind ∧ (x.kind = 1 → (0 ≤ x.party ∧ x.party ≤ 1) ∧ (1 ≤ x.width ∧ x.width ≤ 10)) ∧ (x.kind = 2 → (1 ≤ x.width ∧ x.width ≤ 10) ∧ (0 ≤ x.value ∧ x.value ≤ 1023)) ∧ (1 ≤ x.kind ∧ x.kind ≤ 6) := by
  have hok := ((widths_good ls).2 hg).2
  have h1 := laWidths_get h
  have h2 := hok.2.1 k _ h1
  unfold laWidth at h2
  cases hw : partsBy (findF (ls.take k)) (laWidths (ls.take k)) x.parts with
  | none => rw [hw] at h2; simp at h2
  | some w =>
    have hl := partsBy_length hw
    rw [hw] at h2
    simp only [] at h2
    split at h2
    · omega
    · next g1 =>
      split at h2
      · omega
      · next g2 =>
        simp only [Bool.or_eq_true, not_or, Bool.not_eq_true', Bool.not_eq_false, bne_iff_ne, ne_eq, Decidable.not_not] at g2
        have hk := h2.1
        unfold kindW at hk
        refine ⟨by rw [← hl]; exact g2.2, fun e => ?_, fun e => ?_, ?_⟩
        · rw [if_pos e] at hk
          split at hk
          · next g3 =>
            simp only [Bool.and_eq_true] at g3
            exact ⟨inB_iff.1 g3.1, inB_iff.1 g3.2⟩
          · omega
        · rw [if_neg (by omega), if_pos e] at hk
          split at hk
          · next g3 =>
            simp only [Bool.and_eq_true] at g3
            have hw2 := inB_iff.1 g3.1
            have hv := inB_iff.1 g3.2
            have := pow_le_10 (n := x.width.toNat) (by omega)
            exact ⟨hw2, hv.1, by omega⟩
          · omega
        · by_cases e1 : x.kind = 1
          · omega
          by_cases e2 : x.kind = 2
          · omega
          by_cases e3 : x.kind = 3
          · omega
          by_cases e4 : x.kind = 4 ∨ x.kind = 6
          · omega
          by_cases e5 : x.kind = 5
          · omega
          rw [if_neg e1, if_neg e2, if_neg e3, if_neg e4, if_neg e5] at hk
          omega
theorem part_size {ls : List Ln} (hg : laGoodF ls = true) (hs : okS ls) {k : Nat} {x : Ln} (h : ls[k]? = some x) {p : ByteArray} (hp : p ∈ x.parts) : p.size ≤ 1048576 := by
  have h0 := (good_part hg h hp).1
  unfold findF at h0
  cases hf : ls.findIdx? (findB p) with
  | none => rw [hf] at h0; simp at h0
  | some i =>
    rw [List.findIdx?_eq_some_iff_getElem] at hf
    obtain ⟨hi, hb, _⟩ := hf
    unfold findB at hb
    simp at hb
    have := (hs ls[i] (List.getElem_mem hi)).1
    rw [hb.2] at this
    exact this
/-- A line that has a text. -/
def TxtOk (x : Ln) : Prop := ((x.parts.length : Int) = laParts x.kind ∧ (x.kind = 1 → (0 ≤ x.party ∧ x.party ≤ 1) ∧ (1 ≤ x.width ∧ x.width ≤ 10)) ∧ (x.kind = 2 → (1 ≤ x.width ∧ x.width ≤ 10) ∧ (0 ≤ x.value ∧ x.value ≤ 1023)) ∧ (1 ≤ x.kind ∧ x.kind ≤ 6)) ∧ ∀ p ∈ x.parts, p.size ≤ 1048576
theorem good_txt {ls : List Ln} (hg : laGoodF ls = true) (hs : okS ls) : ∀ x ∈ ls, TxtOk x := fun x hx => by
  obtain ⟨k, hk, e⟩ := List.getElem_of_mem hx
  have h : ls[k]? = some x := by rw [List.getElem?_eq_getElem hk, e]
  exact ⟨line_good hg h, fun p hp => part_size hg hs h hp⟩
/-- The text of a line, but for its end. -/
def lineE (x : Ln) : ByteArray :=
  if x.kind = 1 then ByteArray.mk #[105, 110, 112, 117, 116, 32] ++ numT x.party ++ ByteArray.mk #[32] ++ x.name ++ ByteArray.mk #[32] ++ numT x.width
  else if x.kind = 2 then ByteArray.mk #[99, 111, 110, 115, 116, 32] ++ x.name ++ ByteArray.mk #[32] ++ numT x.width ++ ByteArray.mk #[32] ++ numT x.value
  else if x.kind = 3 then ByteArray.mk #[108, 101, 116, 32] ++ x.name ++ ByteArray.mk #[32] ++ x.parts.getD 0 ByteArray.empty ++ ByteArray.mk #[32] ++ x.op ++ ByteArray.mk #[32] ++ x.parts.getD 1 ByteArray.empty
  else if x.kind = 4 then ByteArray.mk #[110, 111, 116, 32] ++ x.name ++ ByteArray.mk #[32] ++ x.parts.getD 0 ByteArray.empty
  else if x.kind = 5 then ByteArray.mk #[112, 105, 99, 107, 32] ++ x.name ++ ByteArray.mk #[32] ++ x.parts.getD 0 ByteArray.empty ++ ByteArray.mk #[32] ++ x.parts.getD 1 ByteArray.empty ++ ByteArray.mk #[32] ++ x.parts.getD 2 ByteArray.empty
  else ByteArray.mk #[111, 117, 116, 32] ++ x.parts.getD 0 ByteArray.empty
def lineT (x : Ln) : ByteArray := lineE x ++ ByteArray.mk #[10]
def textB (ls : List Ln) : ByteArray := ls.foldl (fun a x => a ++ lineT x) (ByteArray.mk #[])
def textF (ls : List Ln) : ByteArray × Bool := if laGoodF ls = true then (textB ls, true) else (ByteArray.mk #[], false)
theorem textB_step {ls : List Ln} {k : Nat} {x : Ln} (h : ls[k]? = some x) : textB (ls.take (k + 1)) = textB (ls.take k) ++ lineT x := by
  unfold textB
  rw [List.take_add_one, h, List.foldl_append]; rfl
end Go.Proofs.YtdlddkgmjpmenaaGreatDoor
