/-
  The law on MergeNetwork: its walk (printed by gen_law.py).
-/
import Derived.Test.YtoeobhjpiimomaaNet2
namespace Go.Proofs.Ytoeobhjpiimomaa
open Go.RowKit

theorem walk_FnExactMergeNetwork (x0 : Int) (w0 : World)  : Calls Try.prog 5 #[.int .i64 x0] w0 (RetB true w0) := by
  have hB0 : Below w0.heap.size w0 w0 := Below.refl _ _
  obtain ⟨ans, hans⟩ : ∃ r, r = mergeF x0 := ⟨_, rfl⟩
  have HANS := Lib.hid hans
  clear hans
  go_enter Try.func5, Try.ntmps5
  go_wp2_with fail
  refine (spec_MergeNetwork_any _ _).mono ?_
  rintro e w1 ⟨bo0, no0, co0, rfl, ho0, hb1⟩
  rw [← HANS.out]
  rw [← HANS.out] at ho0
  have hB1 := hB0.trans (hb1.mono hB0.size)
  have hZ1 := hb1.size
  have hro0 := ho0.rowLt
  have hLo0 := ho0.le
  go_wp2_with fail
  refine (impl_MergeNetwork_any _ _).mono ?_
  rintro e w2 ⟨bo1, no1, co1, rfl, ho1, hb2⟩
  rw [← HANS.out]
  rw [← HANS.out] at ho1
  have hB2 := hB1.trans (hb2.mono hB1.size)
  have hZ2 := hb2.size
  replace ho0 := ho0.below hb2 (Nat.le_refl _)
  have hro1 := ho1.rowLt
  have hLo1 := ho1.le
  go_wp2_with fail
  refine (eqStepS_any _ _ _ _ _ _ _ _ _ _ _ ho1.flat ho0.flat (Nat.le_refl _) (Nat.le_refl _)).mono ?_
  rintro e w3 ⟨rfl, hb3⟩
  rw [eqB_self]
  have hB3 := hB2.trans (hb3.mono hB2.size)
  have hZ3 := hb3.size
  replace ho0 := ho0.below hb3 (Nat.le_refl _)
  replace ho1 := ho1.below hb3 (Nat.le_refl _)
  go_wp2_with fail
  refine (markStepS_any _ _ _ _ _ 1 _ ho1 (by omega) (by omega)).mono ?_
  rintro e w4 ⟨rfl, hm4, hg4⟩
  have hB4 : Below w0.heap.size w0 w4 := hB3.grown hg4 hB3.size (fun k hk => by have := hro1 k hk; omega)
  have hZ4 := hg4.size
  replace ho0 := ho0.other hg4 (fun k l h1 h2 => by have := hro0 k h1; have := hro1 l h2; omega)
  replace ho1 := hm4
  clear hm4 hg4
  go_wp2_with fail
  refine (heldStepS_any _ _ _ _ _ _ _ ho1.flat (by omega) (by omega) (marks_held _ _)).mono ?_
  rintro e w' ⟨rfl, rfl⟩
  go_wp2_with fail
  refine (impl_MergeNetwork_any _ _).mono ?_
  rintro e w5 ⟨bo2, no2, co2, rfl, ho2, hb5⟩
  rw [← HANS.out]
  rw [← HANS.out] at ho2
  have hB5 := hB4.trans (hb5.mono hB4.size)
  have hZ5 := hb5.size
  replace ho0 := ho0.below hb5 (Nat.le_refl _)
  replace ho1 := ho1.below hb5 (Nat.le_refl _)
  have hro2 := ho2.rowLt
  have hLo2 := ho2.le
  go_wp2_with fail
  refine (eqStepS_any _ _ _ _ _ _ _ _ _ _ _ ho2.flat ho0.flat (Nat.le_refl _) (Nat.le_refl _)).mono ?_
  rintro e w6 ⟨rfl, hb6⟩
  rw [eqB_self]
  have hB6 := hB5.trans (hb6.mono hB5.size)
  have hZ6 := hb6.size
  replace ho0 := ho0.below hb6 (Nat.le_refl _)
  replace ho1 := ho1.below hb6 (Nat.le_refl _)
  replace ho2 := ho2.below hb6 (Nat.le_refl _)
  go_wp2_with fail
  refine (heldStepS_any _ _ _ _ _ _ _ ho1.flat (by omega) (by omega) (marks_held _ _)).mono ?_
  rintro e w' ⟨rfl, rfl⟩
  go_wp2_with fail
  go_ret
  exact ⟨rfl, hB6⟩
end Go.Proofs.Ytoeobhjpiimomaa
