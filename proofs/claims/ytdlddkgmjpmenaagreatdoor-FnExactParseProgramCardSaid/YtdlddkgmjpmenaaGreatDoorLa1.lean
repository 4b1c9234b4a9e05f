/-
  The language: lines as data, the widths of a program both ways, and that both ways agree.
-/
import Derived.Test.YtdlddkgmjpmenaaGreatDoorBase
import Derived.Laws.StructEq
namespace Go.Proofs.YtdlddkgmjpmenaaGreatDoor
open Go.RowKit
set_option linter.unusedVariables false
set_option linter.unusedSimpArgs false

/-- A line of a program. -/
structure Ln where
  kind : Int
  name : ByteArray
  op : ByteArray
  parts : List ByteArray
  party : Int
  width : Int
  value : Int

theorem bytes_ext {a b : ByteArray} (h : a.toList = b.toList) : a = b := by
  rw [ByteArray.toList_eq, ByteArray.toList_eq] at h
  obtain ⟨⟨x⟩⟩ := a
  obtain ⟨⟨y⟩⟩ := b
  simp at h
  rw [h]
theorem bytes_beq {a b : ByteArray} : (a == b) = true ↔ a = b := by
  rw [beq_toListBytes, beq_iff_eq]
  exact ⟨bytes_ext, fun h => by rw [h]⟩
instance : LawfulBEq ByteArray where
  eq_of_beq h := bytes_beq.1 h
  rfl := bytes_beq.2 rfl
theorem bytes_beq_no {a b : ByteArray} : (a == b) = false ↔ a ≠ b := by
  rw [← Bool.not_eq_true, bytes_beq]
def letterB (c : UInt8) : Bool := decide (97 ≤ c.toNat) && decide (c.toNat ≤ 122)
def nameB (s : ByteArray) : Bool := s.data.toList.all letterB && inB (s.size : Int) 1 6
/-- The first line that gives a name: the reference's way. -/
def findB (name : ByteArray) (x : Ln) : Bool := x.kind != 6 && x.name == name
def findF (ls : List Ln) (name : ByteArray) : Int := match ls.findIdx? (findB name) with | some i => (i : Int) | none => -1
/-- .. the program's way. -/
def lineB (name : ByteArray) (x : Ln) : Bool := x.name == name
def lineF (ls : List Ln) (name : ByteArray) : Int := if name == ByteArray.empty then -1 else match ls.findIdx? (lineB name) with | some i => (i : Int) | none => -1
def atN (ws : List Int) (k : Int) : Int := ws.getD k.toNat 0
/-- The widths of parts, none if a part is missing. -/
def partsBy (find : ByteArray → Int) (ws : List Int) : List ByteArray → Option (List Int)
  | [] => some []
  | p :: r => if find p < 0 then none else (partsBy find ws r).map (atN ws (find p) :: ·)
def opB (c : UInt8) : ByteArray := ⟨#[c]⟩
def opsL : List ByteArray := [opB 43, opB 45, opB 42, opB 60, opB 61, opB 38, opB 124, opB 94]
def laTwo (op : ByteArray) (w v : Int) : Int :=
  if (w != v || (!opsL.contains op || (op == opB 42 && decide (2 * w > 10)))) = true then 0 else if (op == opB 42) = true then 2 * w else if (op == opB 60 || op == opB 61) = true then 1 else w
def laParts (k : Int) : Int := if k = 3 then 2 else if k = 4 ∨ k = 6 then 1 else if k = 5 then 3 else 0
/-- Fields that a kind of lines has not are empty. -/
def fieldsB (x : Ln) : Bool :=
  (x.kind != 6 || x.name == ByteArray.empty) && ((x.kind == 3 || x.op == ByteArray.empty) && ((x.kind == 1 || x.party == 0) && ((x.kind == 1 || x.kind == 2 || x.width == 0) && (x.kind == 2 || x.value == 0))))
def kindW (x : Ln) (w : List Int) : Int :=
  if x.kind = 1 then (if (inB x.party 0 1 && inB x.width 1 10) = true then x.width else 0)
  else if x.kind = 2 then (if (inB x.width 1 10 && inB x.value 0 (2 ^ x.width.toNat - 1)) = true then x.width else 0)
  else if x.kind = 3 then laTwo x.op (atN w 0) (atN w 1)
  else if x.kind = 4 ∨ x.kind = 6 then atN w 0
  else if x.kind = 5 then (if (atN w 0 == 1 && atN w 1 == atN w 2) = true then atN w 1 else 0)
  else 0
def laWidth (ls : List Ln) (ws : List Int) (x : Ln) : Int :=
  match partsBy (findF ls) ws x.parts with
  | none => 0
  | some w => if (x.kind != 6 && (!nameB x.name || decide (0 ≤ findF ls x.name))) = true then 0 else if (!fieldsB x || (w.length : Int) != laParts x.kind) = true then 0 else kindW x w
/-- The widths of the lines behind 'done', whose widths are ws. -/
def laWidthsFrom (done : List Ln) (ws : List Int) : List Ln → List Int
  | [] => ws
  | x :: r => laWidthsFrom (done ++ [x]) (ws ++ [laWidth done ws x]) r
def laWidths (ls : List Ln) : List Int := laWidthsFrom [] [] ls
def inputsL (ls : List Ln) (p : Int) : List Int := (ls.filter fun x => x.kind == 1 && x.party == p).map (·.width)
def outsW (ls : List Ln) (ws : List Int) : List Int := ((ls.zip ws).filter fun x => x.1.kind == 6).map (·.2)
def sumL' (l : List Int) : Int := l.foldl (· + ·) 0
def laGoodF (ls : List Ln) : Bool :=
  decide (ls.length ≤ 30) && ((laWidths ls).all (fun w => inB w 1 10) && (decide (sumL' (inputsL ls 0) ≤ 20) && (decide (sumL' (inputsL ls 1) ≤ 20) && decide ((outsW ls (laWidths ls)).length ≤ 10))))
/-- The program's way: the width of a line, 0 if it is not valid. -/
def resW (op : ByteArray) (w : Int) : Int :=
  if (!opsL.contains op) = true then 0 else if (op == opB 42 && decide (2 * w > 10)) = true then 0 else if (op == opB 42) = true then 2 * w else if (op == opB 60 || op == opB 61) = true then 1 else w
def lnWidth (x : Ln) (w : List Int) : Int :=
  if x.kind = 1 ∧ (!inB x.party 0 1 || !inB x.width 1 10) = true then 0
  else if x.kind = 2 ∧ (!inB x.width 1 10 || !inB x.value 0 (2 ^ x.width.toNat - 1)) = true then 0
  else if ((x.kind == 6) != (x.name == ByteArray.empty) || (x.name != ByteArray.empty && !nameB x.name) || (w.length : Int) != laParts x.kind) = true then 0
  else if (!(x.kind == 3 || x.op == ByteArray.empty) || !(x.kind == 1 || x.party == 0) || !(x.kind == 1 || x.kind == 2 || x.width == 0) || !(x.kind == 2 || x.value == 0)) = true then 0
  else if x.kind = 1 then x.width
  else if x.kind = 2 then x.width
  else if x.kind = 3 then (if (w.length = 2 ∧ atN w 0 = atN w 1) then resW x.op (atN w 0) else 0)
  else if x.kind = 4 ∨ x.kind = 6 then (if w.length = 1 then atN w 0 else 0)
  else if x.kind = 5 then (if (w.length = 3 ∧ atN w 0 = 1 ∧ atN w 1 = atN w 2) then atN w 1 else 0)
  else 0
/-- The program's walk over the lines: widths, bits of both parties, results; none if a line is not valid. -/
def widthsFrom (done : List Ln) (ws : List Int) (b0 b1 outs : Int) : List Ln → Option (List Int × Int × Int × Int)
  | [] => some (ws, b0, b1, outs)
  | x :: r =>
    match partsBy (lineF done) ws x.parts with
    | none => none
    | some w =>
      if lnWidth x w = 0 ∨ (x.name ≠ ByteArray.empty ∧ 0 ≤ lineF done x.name) then none
      else widthsFrom (done ++ [x]) (ws ++ [lnWidth x w]) (if x.kind = 1 ∧ x.party = 0 then b0 + lnWidth x w else b0) (if x.kind = 1 ∧ x.party = 1 then b1 + lnWidth x w else b1) (if x.kind = 6 then outs + 1 else outs) r
/-- What 'widths' returns: the list is nil unless all lines are valid. -/
def widthsF (ls : List Ln) : List Int × Bool :=
  if 30 < ls.length then ([], false) else match widthsFrom [] [] 0 0 0 ls with
  | none => ([], false)
  | some (ws, b0, b1, outs) => (ws, decide (b0 ≤ 20) && (decide (b1 ≤ 20) && decide (outs ≤ 10)))
end Go.Proofs.YtdlddkgmjpmenaaGreatDoor
