/-
  The language: what the program's width of a line leans on.
-/
import Derived.Test.YtdlddkgmjpmenaaGreatDoorLn3
import Derived.Test.YtdlddkgmjpmenaaGreatDoorRw1
import Derived.Deep.CutBlock
import Derived.Deep.DeepCutAuto
namespace Go.Proofs.YtdlddkgmjpmenaaGreatDoor
open Go.RowKit
set_option linter.unusedVariables false
set_option linter.unusedSimpArgs false

def lineV (l : Ln) (pa : Option Addr) (pc : Nat) : Value := .agg #[.int .i64 l.kind, .string l.name, .string l.op, .slice pa l.parts.length pc, .int .i64 l.party, .int .i64 l.width, .int .i64 l.value]
/-- The block of the line that is due. -/
def dueObj (l : Ln) (pa : Option Addr) (pc : Nat) : Obj := .cells #[.int .i64 l.kind, .string l.name, .string ⟨#[]⟩, .slice pa l.parts.length pc, .int .i64 0, .int .i64 0, .int .i64 0] 47
theorem boxD_new (w : World) (l : Ln) (pa : Option Addr) (pc : Nat) : BoxN (w.alloc (dueObj l pa pc)) w.heap.size l.name ⟨#[]⟩ 0 0 0 := by
  have h := heap_alloc_new w (dueObj l pa pc)
  have c := fun j => cell_of_row (w.alloc (dueObj l pa pc)) w.heap.size j _ _ (0, 0) h
  have f := fun j => frozen_of_row (w.alloc (dueObj l pa pc)) w.heap.size j _ _ h
  refine ⟨?_, ?_, ?_, ?_, ?_, f 1, f 2, f 4, f 5, f 6⟩ <;> rw [c] <;> rfl
theorem BoxL.far {W : World} {b : Nat} {l : Ln} {pa : Option Addr} {pc : Nat} (h : BoxL W b l pa pc) (p : Addr) (v : Value) (hp : p.block ≠ b) : BoxL (W.setCell p v) b l pa pc :=
  ⟨(World.cell?_setCell_far _ _ _ _ hp).trans h.1, (World.cell?_setCell_far _ _ _ _ hp).trans h.2.1, (World.cell?_setCell_far _ _ _ _ hp).trans h.2.2.1, (World.cell?_setCell_far _ _ _ _ hp).trans h.2.2.2.1, (World.cell?_setCell_far _ _ _ _ hp).trans h.2.2.2.2.1, (World.cell?_setCell_far _ _ _ _ hp).trans h.2.2.2.2.2.1, (World.cell?_setCell_far _ _ _ _ hp).trans h.2.2.2.2.2.2⟩
theorem BoxN.set2 {W : World} {b : Nat} {nm op : ByteArray} {pv wv vv : Int} (h : BoxN W b nm op pv wv vv) (s : ByteArray) : BoxN (W.setCell ⟨b, 2, none⟩ (.string s)) b nm s pv wv vv :=
  ⟨(World.cell?_setCell_other _ _ _ _ (by simp)).trans h.1, World.cell?_setCell_same _ _ _ h.2.1, (World.cell?_setCell_other _ _ _ _ (by simp)).trans h.2.2.1, (World.cell?_setCell_other _ _ _ _ (by simp)).trans h.2.2.2.1, (World.cell?_setCell_other _ _ _ _ (by simp)).trans h.2.2.2.2.1, (World.frozen?_setCell _ _ _ _).trans h.2.2.2.2.2.1, (World.frozen?_setCell _ _ _ _).trans h.2.2.2.2.2.2.1, (World.frozen?_setCell _ _ _ _).trans h.2.2.2.2.2.2.2.1, (World.frozen?_setCell _ _ _ _).trans h.2.2.2.2.2.2.2.2.1, (World.frozen?_setCell _ _ _ _).trans h.2.2.2.2.2.2.2.2.2⟩
theorem BoxN.set4 {W : World} {b : Nat} {nm op : ByteArray} {pv wv vv : Int} (h : BoxN W b nm op pv wv vv) (s : Int) : BoxN (W.setCell ⟨b, 4, none⟩ (.int .i64 s)) b nm op s wv vv :=
  ⟨(World.cell?_setCell_other _ _ _ _ (by simp)).trans h.1, (World.cell?_setCell_other _ _ _ _ (by simp)).trans h.2.1, World.cell?_setCell_same _ _ _ h.2.2.1, (World.cell?_setCell_other _ _ _ _ (by simp)).trans h.2.2.2.1, (World.cell?_setCell_other _ _ _ _ (by simp)).trans h.2.2.2.2.1, (World.frozen?_setCell _ _ _ _).trans h.2.2.2.2.2.1, (World.frozen?_setCell _ _ _ _).trans h.2.2.2.2.2.2.1, (World.frozen?_setCell _ _ _ _).trans h.2.2.2.2.2.2.2.1, (World.frozen?_setCell _ _ _ _).trans h.2.2.2.2.2.2.2.2.1, (World.frozen?_setCell _ _ _ _).trans h.2.2.2.2.2.2.2.2.2⟩
theorem BoxN.set5 {W : World} {b : Nat} {nm op : ByteArray} {pv wv vv : Int} (h : BoxN W b nm op pv wv vv) (s : Int) : BoxN (W.setCell ⟨b, 5, none⟩ (.int .i64 s)) b nm op pv s vv :=
  ⟨(World.cell?_setCell_other _ _ _ _ (by simp)).trans h.1, (World.cell?_setCell_other _ _ _ _ (by simp)).trans h.2.1, (World.cell?_setCell_other _ _ _ _ (by simp)).trans h.2.2.1, World.cell?_setCell_same _ _ _ h.2.2.2.1, (World.cell?_setCell_other _ _ _ _ (by simp)).trans h.2.2.2.2.1, (World.frozen?_setCell _ _ _ _).trans h.2.2.2.2.2.1, (World.frozen?_setCell _ _ _ _).trans h.2.2.2.2.2.2.1, (World.frozen?_setCell _ _ _ _).trans h.2.2.2.2.2.2.2.1, (World.frozen?_setCell _ _ _ _).trans h.2.2.2.2.2.2.2.2.1, (World.frozen?_setCell _ _ _ _).trans h.2.2.2.2.2.2.2.2.2⟩
theorem BoxN.set6 {W : World} {b : Nat} {nm op : ByteArray} {pv wv vv : Int} (h : BoxN W b nm op pv wv vv) (s : Int) : BoxN (W.setCell ⟨b, 6, none⟩ (.int .i64 s)) b nm op pv wv s :=
  ⟨(World.cell?_setCell_other _ _ _ _ (by simp)).trans h.1, (World.cell?_setCell_other _ _ _ _ (by simp)).trans h.2.1, (World.cell?_setCell_other _ _ _ _ (by simp)).trans h.2.2.1, (World.cell?_setCell_other _ _ _ _ (by simp)).trans h.2.2.2.1, World.cell?_setCell_same _ _ _ h.2.2.2.2.1, (World.frozen?_setCell _ _ _ _).trans h.2.2.2.2.2.1, (World.frozen?_setCell _ _ _ _).trans h.2.2.2.2.2.2.1, (World.frozen?_setCell _ _ _ _).trans h.2.2.2.2.2.2.2.1, (World.frozen?_setCell _ _ _ _).trans h.2.2.2.2.2.2.2.2.1, (World.frozen?_setCell _ _ _ _).trans h.2.2.2.2.2.2.2.2.2⟩
theorem below_set {C : Nat} {w w' : World} (h : Below C w w') (p : Addr) (v : Value) (hp : C ≤ p.block) : Below C w (w'.setCell p v) := by
  obtain ⟨b, o, s⟩ := p
  exact Below.setCell h hp v
end Go.Proofs.YtdlddkgmjpmenaaGreatDoor
