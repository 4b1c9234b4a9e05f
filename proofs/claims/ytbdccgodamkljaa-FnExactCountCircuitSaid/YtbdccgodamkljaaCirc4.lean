/-
  Circuits: the answer of IsCircuit.
-/
import Derived.Test.YtbdccgodamkljaaCirc3
namespace Go.Proofs.Ytbdccgodamkljaa
open Go.RowKit
set_option linter.unusedVariables false
set_option linter.unusedSimpArgs false

theorem spec_IsCircuit_any (w : World) (i0 i1 : Int) (ga oa : Option Addr) (gn gc on oc : Nat) (gs os : List Int) (hg : Flat 3 w w.heap.size ga gn gs) (ho : Ints w w.heap.size oa on os) :
    Calls Try.prog 16 #[circV i0 i1 ga gn gc oa on oc] w (RetB (isCircF i0 i1 gs os) w) := by
  have hb0 : Below w.heap.size w (w.alloc (.cells #[.int .i64 i0, .int .i64 i1, .slice ga gn gc, .slice oa on oc] 30)) := (Below.refl _ _).alloc (Nat.le_refl _) _
  have hg1 := (hg.below hb0 (Nat.le_refl _)).up hb0.size
  have ho1 := (ho.below hb0 (Nat.le_refl _)).up hb0.size
  unfold circV
  go_enter Try.func16, Try.ntmps16
  go_wp2_with fail
  refine (ciGood_any _ _ _ _ _ _ _ _ _ _ _ hg1 ho1).mono ?_
  rintro e w1 ⟨rfl, hb1⟩
  go_wp2_with fail
  go_ret
  exact ⟨rfl, hb0.trans (hb1.mono hb0.size)⟩
end Go.Proofs.Ytbdccgodamkljaa
