/-
  The language: the program's width of a line, all kinds; the state of its walk over the lines.
-/
import Derived.Test.YtdlddkgmjpmenaaGreatDoorLv0
import Derived.Test.YtdlddkgmjpmenaaGreatDoorLv1
import Derived.Test.YtdlddkgmjpmenaaGreatDoorLv2
import Derived.Test.YtdlddkgmjpmenaaGreatDoorLv3
import Derived.Test.YtdlddkgmjpmenaaGreatDoorLv4
import Derived.Test.YtdlddkgmjpmenaaGreatDoorLv5
import Derived.Test.YtdlddkgmjpmenaaGreatDoorLv6
import Derived.Test.YtdlddkgmjpmenaaGreatDoorLi1
import Derived.Test.YtdlddkgmjpmenaaGreatDoorLa3
import Derived.Test.YtdlddkgmjpmenaaGreatDoorLn7
import Derived.Deep.AppendLies
namespace Go.Proofs.YtdlddkgmjpmenaaGreatDoor
open Go.RowKit
set_option linter.unusedVariables false
set_option linter.unusedSimpArgs false

theorem lineWidth_any (w : World) (x : Ln) (pa bo : Option Addr) (n c pc : Nat) (v : List Int) (hw : Ints w w.heap.size bo n v) (hz : okZ v) (hs : x.name.size ≤ 1048576) :
    Calls Tryz.prog 78 #[lineV x pa pc, .slice bo n c] w (RetN (lnWidth x v) w) := by
  by_cases k1 : x.kind = 1
  · exact lineWidth_any1 w x pa bo n c pc v hw hz hs k1
  by_cases k2 : x.kind = 2
  · exact lineWidth_any2 w x pa bo n c pc v hw hz hs k2
  by_cases k3 : x.kind = 3
  · exact lineWidth_any3 w x pa bo n c pc v hw hz hs k3
  by_cases k4 : x.kind = 4
  · exact lineWidth_any4 w x pa bo n c pc v hw hz hs k4
  by_cases k5 : x.kind = 5
  · exact lineWidth_any5 w x pa bo n c pc v hw hz hs k5
  by_cases k6 : x.kind = 6
  · exact lineWidth_any6 w x pa bo n c pc v hw hz hs k6
  exact lineWidth_any0 w x pa bo n c pc v hw hz hs k1 k2 k3 k4 k5 k6
theorem okW_okZ {ws : List Int} (h : okW ws) : okZ ws := fun i x hx => by have := h i x hx; omega
theorem lnWidth_range {x : Ln} {v : List Int} (hv : okW v) (h : lnWidth x v ≠ 0) : 1 ≤ lnWidth x v ∧ lnWidth x v ≤ 10 := by
  obtain ⟨h1, h2, h3⟩ := lnWidth_named h
  rw [kind_agree h1 h2 h3] at h ⊢
  rcases kindW_ok (x := x) hv h3 with h4 | h4
  · exact (h h4).elim
  · exact h4
theorem lnWidth_party {x : Ln} {v : List Int} (h : lnWidth x v ≠ 0) (hk : x.kind = 1) : x.party = 0 ∨ x.party = 1 := by
  unfold lnWidth at h
  split at h
  · exact (h rfl).elim
  · next g =>
    cases hp : inB x.party 0 1
    · exact (g ⟨hk, by rw [hp]; rfl⟩).elim
    · have := inB_iff.1 hp; omega
theorem lnWidth_six {x : Ln} {v : List Int} (h : lnWidth x v ≠ 0) : (x.kind = 6 ↔ x.name = ByteArray.empty) := by
  exact (lnWidth_named h).1.1
/-- The two counts of bits in their box. -/
def Bits2 (w : World) (g : Nat) (b0 b1 : Int) : Prop := w.cell? ⟨g, 0, none⟩ = some (.int .i64 b0) ∧ w.cell? ⟨g, 1, none⟩ = some (.int .i64 b1) ∧ w.frozen? ⟨g, 0, none⟩ = false ∧ w.frozen? ⟨g, 1, none⟩ = false
theorem Bits2.below {w w' : World} {g C : Nat} {b0 b1 : Int} (h : Bits2 w g b0 b1) (hb : Below C w w') (hg : g < C) : Bits2 w' g b0 b1 :=
  ⟨(hb.cell (p := ⟨g, 0, none⟩) hg).trans h.1, (hb.cell (p := ⟨g, 1, none⟩) hg).trans h.2.1, (hb.frozen (p := ⟨g, 0, none⟩) hg).trans h.2.2.1, (hb.frozen (p := ⟨g, 1, none⟩) hg).trans h.2.2.2⟩
theorem Bits2.new (w : World) (t : TypeId) : Bits2 (w.alloc (.cells #[.int .i64 0, .int .i64 0] t)) w.heap.size 0 0 := by
  have h := heap_alloc_new w (.cells #[.int .i64 0, .int .i64 0] t)
  have c := fun j => cell_of_row (w.alloc (.cells #[.int .i64 0, .int .i64 0] t)) w.heap.size j _ _ (0, 0) h
  have f := fun j => frozen_of_row (w.alloc (.cells #[.int .i64 0, .int .i64 0] t)) w.heap.size j _ _ h
  refine ⟨?_, ?_, f 0, f 1⟩ <;> rw [c] <;> rfl
theorem Bits2.set0 {w : World} {g : Nat} {b0 b1 : Int} (h : Bits2 w g b0 b1) (v : Int) : Bits2 (w.setCell ⟨g, 0, none⟩ (.int .i64 v)) g v b1 :=
  ⟨World.cell?_setCell_same _ _ _ h.1, (World.cell?_setCell_other _ _ _ _ (by simp)).trans h.2.1, (World.frozen?_setCell _ _ _ _).trans h.2.2.1, (World.frozen?_setCell _ _ _ _).trans h.2.2.2⟩
theorem Bits2.set1 {w : World} {g : Nat} {b0 b1 : Int} (h : Bits2 w g b0 b1) (v : Int) : Bits2 (w.setCell ⟨g, 1, none⟩ (.int .i64 v)) g b0 v :=
  ⟨(World.cell?_setCell_other _ _ _ _ (by simp)).trans h.1, World.cell?_setCell_same _ _ _ h.2.1, (World.frozen?_setCell _ _ _ _).trans h.2.2.1, (World.frozen?_setCell _ _ _ _).trans h.2.2.2⟩
theorem grown_setCell (w : World) (a : Addr) (u : Value) : w.grownBy (w.setCell a u) (some a.block) :=
  ⟨rfl, rfl, rfl, by simp, fun k _ hk => heap_setCell_other w a k u (fun e => hk (by rw [e]))⟩
theorem Bits2.grown {w w' : World} {g : Nat} {b0 b1 : Int} {row : Option Nat} (h : Bits2 w g b0 b1) (hg : w.grownBy w' row) (hlt : g < w.heap.size) (hne : some g ≠ row) : Bits2 w' g b0 b1 :=
  ⟨(hg.cell_far ⟨g, 0, none⟩ hlt hne).trans h.1, (hg.cell_far ⟨g, 1, none⟩ hlt hne).trans h.2.1, (hg.frozen_far ⟨g, 0, none⟩ hlt hne).trans h.2.2.1, (hg.frozen_far ⟨g, 1, none⟩ hlt hne).trans h.2.2.2⟩
end Go.Proofs.YtdlddkgmjpmenaaGreatDoor
