/-
  The law on CountDigests: its walk (printed by gen_law.py).
-/
import Derived.Test.YtilkgidilhgjeaaCd1
namespace Go.Proofs.Ytilkgidilhgjeaa
open Go.RowKit

theorem walk_FnExactCountDigests (x0 : Int) (x1 : Int) (w0 : World)  : Calls Try.prog 6 #[.int .i64 x0, .int .i64 x1] w0 (RetB true w0) := by
  have hB0 : Below w0.heap.size w0 w0 := Below.refl _ _
  obtain ⟨ans, hans⟩ : ∃ r, r = countF x0 x1 := ⟨_, rfl⟩
  have HANS := Lib.hid hans
  clear hans
  go_enter Try.func6, Try.ntmps6
  go_wp2_with fail
  refine (spec_CountDigests_any _ _ _).mono ?_
  rintro e w1 ⟨rfl, hb1⟩
  rw [← HANS.out]
  have hB1 := hB0.trans (hb1.mono hB0.size)
  have hZ1 := hb1.size
  go_wp2_with fail
  refine (impl_CountDigests_any _ _ _).mono ?_
  rintro e w2 ⟨rfl, hb2⟩
  rw [← HANS.out]
  have hB2 := hB1.trans (hb2.mono hB1.size)
  have hZ2 := hb2.size
  go_wp2_with fail
  go_ret
  exact ⟨rfl, hB2⟩
end Go.Proofs.Ytilkgidilhgjeaa
