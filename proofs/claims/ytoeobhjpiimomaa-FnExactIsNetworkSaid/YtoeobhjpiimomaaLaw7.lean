/-
  The law on IsNetwork: its walk (printed by gen_law.py).
-/
import Derived.Test.YtoeobhjpiimomaaNet3
namespace Go.Proofs.Ytoeobhjpiimomaa
open Go.RowKit

theorem walk_FnExactIsNetwork (x0 : Int) (a1 : Option Addr) (n1 c1 : Nat) (z1 : List Int) (w0 : World) (hA1 : FlatArg 2 w0 a1 n1 z1) : Calls Try.prog 3 #[.int .i64 x0, .slice a1 n1 c1] w0 (RetB true w0) := by
  have hs1 := hA1.2.1
  unfold maxLen at hs1
  by_cases hg1 : n1 ≤ 1048576
  rotate_left
  · go_enter Try.func3, Try.ntmps3
    go_wp2_with fail
    refine (szStepS_any _ _ _ _ _ (by omega) (by omega) hA1.2.1).mono ?_
    rintro e w' ⟨rfl, rfl⟩
    rw [show szF 1048576 n1 = -1 from by rw [szF, if_pos (by omega)]]
    go_wp2_with fail
    go_ret
    exact ⟨rfl, Below.refl _ _⟩
  have hI1 := hA1.flat hg1
  have hB0 : Below w0.heap.size w0 w0 := Below.refl _ _
  obtain ⟨ans, hans⟩ : ∃ r, r = isNetF x0 z1 := ⟨_, rfl⟩
  have HANS := Lib.hid hans
  clear hans
  go_enter Try.func3, Try.ntmps3
  go_wp2_with fail
  refine (szStepS_any _ _ _ _ _ (by omega) (by omega) hA1.2.1).mono ?_
  rintro e w' ⟨rfl, rfl⟩
  rw [show szF 1048576 n1 = 1048576 - n1 from by rw [szF, if_neg (by omega)]]
  go_wp2_with fail
  refine (toStepS_any _ _ _ _ _ ((hI1.below hB0 (Nat.le_refl _)).up hB0.size)).mono ?_
  rintro e w1 ⟨bo0, no0, co0, rfl, ho0, hb1⟩
  have hB1 := hB0.trans (hb1.mono hB0.size)
  have hZ1 := hb1.size
  have hro0 := ho0.rowLt
  have hLo0 := ho0.le
  go_wp2_with fail
  refine (spec_IsNetwork_any _ _ _ _ _ _ ho0.flat).mono ?_
  rintro e w2 ⟨rfl, hb2⟩
  rw [← HANS.out]
  have hB2 := hB1.trans (hb2.mono hB1.size)
  have hZ2 := hb2.size
  replace ho0 := ho0.below hb2 (Nat.le_refl _)
  go_wp2_with fail
  refine (toStepS_any _ _ _ _ _ ((hI1.below hB2 (Nat.le_refl _)).up hB2.size)).mono ?_
  rintro e w3 ⟨bo2, no2, co2, rfl, ho2, hb3⟩
  have hB3 := hB2.trans (hb3.mono hB2.size)
  have hZ3 := hb3.size
  replace ho0 := ho0.below hb3 (Nat.le_refl _)
  have hro2 := ho2.rowLt
  have hLo2 := ho2.le
  go_wp2_with fail
  refine (impl_IsNetwork_any _ _ _ _ _ _ ho2.flat).mono ?_
  rintro e w4 ⟨rfl, hb4⟩
  rw [← HANS.out]
  have hB4 := hB3.trans (hb4.mono hB3.size)
  have hZ4 := hb4.size
  replace ho0 := ho0.below hb4 (Nat.le_refl _)
  replace ho2 := ho2.below hb4 (Nat.le_refl _)
  go_wp2_with fail
  refine (toStepS_any _ _ _ _ _ ((hI1.below hB4 (Nat.le_refl _)).up hB4.size)).mono ?_
  rintro e w5 ⟨bo4, no4, co4, rfl, ho4, hb5⟩
  have hB5 := hB4.trans (hb5.mono hB4.size)
  have hZ5 := hb5.size
  replace ho0 := ho0.below hb5 (Nat.le_refl _)
  replace ho2 := ho2.below hb5 (Nat.le_refl _)
  have hro4 := ho4.rowLt
  have hLo4 := ho4.le
  go_wp2_with fail
  refine (eqStepS_any _ _ _ _ _ _ _ _ _ _ _ ho2.flat ho4.flat (Nat.le_refl _) (Nat.le_refl _)).mono ?_
  rintro e w6 ⟨rfl, hb6⟩
  rw [eqB_self]
  have hB6 := hB5.trans (hb6.mono hB5.size)
  have hZ6 := hb6.size
  replace ho0 := ho0.below hb6 (Nat.le_refl _)
  replace ho2 := ho2.below hb6 (Nat.le_refl _)
  replace ho4 := ho4.below hb6 (Nat.le_refl _)
  go_wp2_with fail
  go_ret
  exact ⟨rfl, hB6⟩
end Go.Proofs.Ytoeobhjpiimomaa
