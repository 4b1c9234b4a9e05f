/-
  The language: the program's walk over the lines, line by line.
-/
import Derived.Test.YtdlddkgmjpmenaaGreatDoorLa2
namespace Go.Proofs.YtdlddkgmjpmenaaGreatDoor
open Go.RowKit
set_option linter.unusedVariables false
set_option linter.unusedSimpArgs false

abbrev St := List Int × Int × Int × Int
/-- What the program's walk does at one line. -/
def stepW (done : List Ln) (x : Ln) (s : St) : Option St :=
  match partsBy (lineF done) s.1 x.parts with
  | none => none
  | some w =>
    if lnWidth x w = 0 ∨ (x.name ≠ ByteArray.empty ∧ 0 ≤ lineF done x.name) then none
    else some (s.1 ++ [lnWidth x w], (if x.kind = 1 ∧ x.party = 0 then s.2.1 + lnWidth x w else s.2.1), (if x.kind = 1 ∧ x.party = 1 then s.2.2.1 + lnWidth x w else s.2.2.1), (if x.kind = 6 then s.2.2.2 + 1 else s.2.2.2))
def runW (ls : List Ln) : Option St := widthsFrom [] [] 0 0 0 ls
theorem widthsFrom_cons (done : List Ln) (ws : List Int) (b0 b1 o : Int) (x : Ln) (r : List Ln) : widthsFrom done ws b0 b1 o (x :: r) = (stepW done x (ws, b0, b1, o)).bind fun s => widthsFrom (done ++ [x]) s.1 s.2.1 s.2.2.1 s.2.2.2 r := by
  unfold stepW
  rw [widthsFrom]
  cases h : partsBy (lineF done) ws x.parts with
  | none => simp [h]
  | some w =>
    simp only [h]
    by_cases g : lnWidth x w = 0 ∨ (x.name ≠ ByteArray.empty ∧ 0 ≤ lineF done x.name)
    · rw [if_pos g, if_pos g]; rfl
    · rw [if_neg g, if_neg g]; rfl
theorem widthsFrom_snoc (x : Ln) : ∀ (r done : List Ln) (ws : List Int) (b0 b1 o : Int), widthsFrom done ws b0 b1 o (r ++ [x]) = (widthsFrom done ws b0 b1 o r).bind (stepW (done ++ r) x)
  | [], done, ws, b0, b1, o => by
    rw [List.nil_append, widthsFrom_cons, widthsFrom, List.append_nil]
    cases h : stepW done x (ws, b0, b1, o) with
    | none => simp [h]
    | some s => simp [h, widthsFrom]
  | y :: r, done, ws, b0, b1, o => by
    rw [List.cons_append, widthsFrom_cons, widthsFrom_cons]
    cases stepW done y (ws, b0, b1, o) with
    | none => rfl
    | some s =>
      simp only [Option.bind_some]
      rw [widthsFrom_snoc x r]
      simp
theorem widthsFrom_none : ∀ (a b done : List Ln) (ws : List Int) (b0 b1 o : Int), widthsFrom done ws b0 b1 o a = none → widthsFrom done ws b0 b1 o (a ++ b) = none
  | [], b, done, ws, b0, b1, o, h => by simp [widthsFrom] at h
  | y :: a, b, done, ws, b0, b1, o, h => by
    rw [widthsFrom_cons] at h
    rw [List.cons_append, widthsFrom_cons]
    cases hs : stepW done y (ws, b0, b1, o) with
    | none => rfl
    | some s =>
      rw [hs] at h
      simp only [Option.bind_some] at h ⊢
      exact widthsFrom_none a b _ _ _ _ _ h
theorem runW_step {ls : List Ln} {k : Nat} {x : Ln} {s : St} (h : ls[k]? = some x) (hs : runW (ls.take k) = some s) : runW (ls.take (k + 1)) = stepW (ls.take k) x s := by
  unfold runW at hs ⊢
  rw [List.take_add_one, h]
  rw [Option.toList_some, widthsFrom_snoc, hs, List.nil_append]
  rfl
theorem runW_stop {ls : List Ln} {k : Nat} {x : Ln} {s : St} (h : ls[k]? = some x) (hs : runW (ls.take k) = some s) (hn : stepW (ls.take k) x s = none) : widthsF ls = ([], false) := by
  have h1 := runW_step h hs
  rw [hn] at h1
  have h2 : runW ls = none := by
    have := widthsFrom_none (ls.take (k + 1)) (ls.drop (k + 1)) [] [] 0 0 0 h1
    rwa [List.take_append_drop] at this
  unfold widthsF
  unfold runW at h2
  rw [h2]
  split <;> rfl
/-- What holds of the state behind some lines. -/
theorem runW_ok {ls : List Ln} {s : St} (h : runW ls = some s) : s.1 = laWidths ls ∧ okP ls s.1 ∧ s.2.1 = sumL' (inputsL ls 0) ∧ s.2.2.1 = sumL' (inputsL ls 1) ∧ s.2.2.2 = countOuts ls := by
  obtain ⟨ws, b0, b1, o⟩ := s
  have h0 : okP [] [] := ⟨rfl, fun i x hx => by simp at hx, fun x hx => by simp at hx⟩
  have := (widthsFrom_agree ls [] [] 0 0 0 h0).1 ws b0 b1 o h
  obtain ⟨h1, h2, h3, h4, h5⟩ := this
  exact ⟨h1, by simpa using h2, by simpa using h3, by simpa using h4, by simpa using h5⟩
theorem runW_end {ls : List Ln} {s : St} (h : runW ls = some s) (h30 : ¬ 30 < ls.length) : widthsF ls = (s.1, decide (s.2.1 ≤ 20) && (decide (s.2.2.1 ≤ 20) && decide (s.2.2.2 ≤ 10))) := by
  obtain ⟨ws, b0, b1, o⟩ := s
  unfold widthsF
  unfold runW at h
  rw [if_neg h30, h]
end Go.Proofs.YtdlddkgmjpmenaaGreatDoor
