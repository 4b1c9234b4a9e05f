/-
  The laws on AreBits, BitsOf, NumberOf, WeightOf, ParityOf, SignedOf and OrderMod: their walks (printed by gen_law.py).
-/
import Derived.Test.YthnmdcfpddpdfaaBits2
import Derived.Test.YthnmdcfpddpdfaaOrder
namespace Go.Proofs.Ythnmdcfpddpdfaa
open Go.RowKit

theorem walk_FnExactAreBits (a0 : Option Addr) (n0 c0 : Nat) (z0 : List Int) (w0 : World) (hA0 : IntsArg w0 a0 n0 z0) : Calls Try.prog 6 #[.slice a0 n0 c0] w0 (RetB true w0) := by
  have hs0 := hA0.2.1
  unfold maxLen at hs0
  by_cases hg0 : n0 ≤ 1048576
  rotate_left
  · have hg0' : ¬ (n0 : Int) ≤ 1048576 := by omega
    go_enter Try.func6, Try.ntmps6
    go_wp2_with fail
    go_ret
    exact ⟨rfl, Below.refl _ _⟩
  have hI0 := hA0.ints hg0
  have hB0 : Below w0.heap.size w0 w0 := Below.refl _ _
  obtain ⟨ans, hans⟩ : ∃ r, r = goodB z0 64 := ⟨_, rfl⟩
  have HANS := Lib.hid hans
  clear hans
  go_enter Try.func6, Try.ntmps6
  go_wp2_with fail
  refine (toIntS_any _ _ _ _ _ ((hI0.below hB0 (Nat.le_refl _)).up hB0.size)).mono ?_
  rintro e w1 ⟨bo0, no0, co0, rfl, ho0, hb1⟩
  have hB1 := hB0.trans (hb1.mono hB0.size)
  have hZ1 := hb1.size
  have hro0 := ho0.rowLt
  go_wp2_with fail
  refine (spec_AreBits_any _ _ _ _ _ _ ho0.ints).mono ?_
  rintro e w' ⟨rfl, rfl⟩
  rw [← HANS.out]
  go_wp2_with fail
  refine (toIntS_any _ _ _ _ _ ((hI0.below hB1 (Nat.le_refl _)).up hB1.size)).mono ?_
  rintro e w2 ⟨bo2, no2, co2, rfl, ho2, hb2⟩
  have hB2 := hB1.trans (hb2.mono hB1.size)
  have hZ2 := hb2.size
  replace ho0 := ho0.below hb2 (Nat.le_refl _)
  have hro2 := ho2.rowLt
  go_wp2_with fail
  refine (impl_AreBits_any _ _ _ _ _ ho2.ints).mono ?_
  rintro e w3 ⟨rfl, hb3⟩
  rw [← HANS.out]
  have hB3 := hB2.trans (hb3.mono hB2.size)
  have hZ3 := hb3.size
  replace ho0 := ho0.below hb3 (Nat.le_refl _)
  replace ho2 := ho2.below hb3 (Nat.le_refl _)
  go_wp2_with fail
  refine (toIntS_any _ _ _ _ _ ((hI0.below hB3 (Nat.le_refl _)).up hB3.size)).mono ?_
  rintro e w4 ⟨bo4, no4, co4, rfl, ho4, hb4⟩
  have hB4 := hB3.trans (hb4.mono hB3.size)
  have hZ4 := hb4.size
  replace ho0 := ho0.below hb4 (Nat.le_refl _)
  replace ho2 := ho2.below hb4 (Nat.le_refl _)
  have hro4 := ho4.rowLt
  go_wp2_with fail
  refine (eqIntS_any _ _ _ _ _ _ _ _ _ _ _ ho2.ints ho4.ints (Nat.le_refl _) (Nat.le_refl _)).mono ?_
  rintro e w5 ⟨rfl, hb5⟩
  rw [eqB_self]
  have hB5 := hB4.trans (hb5.mono hB4.size)
  have hZ5 := hb5.size
  replace ho0 := ho0.below hb5 (Nat.le_refl _)
  replace ho2 := ho2.below hb5 (Nat.le_refl _)
  replace ho4 := ho4.below hb5 (Nat.le_refl _)
  go_wp2_with fail
  go_ret
  exact ⟨rfl, hB5⟩
theorem walk_FnExactBitsOf (x0 : Int) (x1 : Int) (w0 : World)  : Calls Try.prog 10 #[.int .i64 x0, .int .i64 x1] w0 (RetB true w0) := by
  have hB0 : Below w0.heap.size w0 w0 := Below.refl _ _
  obtain ⟨ans, hans⟩ : ∃ r, r = bitsOfF x0 x1 := ⟨_, rfl⟩
  have HANS := Lib.hid hans
  clear hans
  go_enter Try.func10, Try.ntmps10
  go_wp2_with fail
  refine (spec_BitsOf_any _ _ _).mono ?_
  rintro e w1 ⟨bo0, no0, co0, rfl, ho0, hb1⟩
  rw [← HANS.out]
  rw [← HANS.out] at ho0
  have hB1 := hB0.trans (hb1.mono hB0.size)
  have hZ1 := hb1.size
  have hro0 := ho0.rowLt
  go_wp2_with fail
  refine (impl_BitsOf_any _ _ _).mono ?_
  rintro e w2 ⟨bo1, no1, co1, rfl, ho1, hb2⟩
  rw [← HANS.out]
  rw [← HANS.out] at ho1
  have hB2 := hB1.trans (hb2.mono hB1.size)
  have hZ2 := hb2.size
  replace ho0 := ho0.below hb2 (Nat.le_refl _)
  have hro1 := ho1.rowLt
  go_wp2_with fail
  refine (eqIntS_any _ _ _ _ _ _ _ _ _ _ _ ho1.ints ho0.ints (Nat.le_refl _) (Nat.le_refl _)).mono ?_
  rintro e w3 ⟨rfl, hb3⟩
  rw [eqB_self]
  have hB3 := hB2.trans (hb3.mono hB2.size)
  have hZ3 := hb3.size
  replace ho0 := ho0.below hb3 (Nat.le_refl _)
  replace ho1 := ho1.below hb3 (Nat.le_refl _)
  go_wp2_with fail
  refine (markIntS_any _ _ _ _ _ 1 _ ho1 (by omega) (by have := ho1.le; omega)).mono ?_
  rintro e w4 ⟨rfl, hm4, hg4⟩
  have hB4 : Below w0.heap.size w0 w4 := hB3.grown hg4 hB3.size (fun k hk => by have := hro1 k hk; omega)
  have hZ4 := hg4.size
  replace ho0 := ho0.other hg4 (fun k l h1 h2 => by have := hro0 k h1; have := hro1 l h2; omega)
  replace ho1 := hm4
  clear hm4 hg4
  go_wp2_with fail
  refine (heldIntS_any _ _ _ _ _ _ _ ho1.ints (by omega) (by omega) (marks_held _ _)).mono ?_
  rintro e w' ⟨rfl, rfl⟩
  go_wp2_with fail
  refine (impl_BitsOf_any _ _ _).mono ?_
  rintro e w5 ⟨bo2, no2, co2, rfl, ho2, hb5⟩
  rw [← HANS.out]
  rw [← HANS.out] at ho2
  have hB5 := hB4.trans (hb5.mono hB4.size)
  have hZ5 := hb5.size
  replace ho0 := ho0.below hb5 (Nat.le_refl _)
  replace ho1 := ho1.below hb5 (Nat.le_refl _)
  have hro2 := ho2.rowLt
  go_wp2_with fail
  refine (eqIntS_any _ _ _ _ _ _ _ _ _ _ _ ho2.ints ho0.ints (Nat.le_refl _) (Nat.le_refl _)).mono ?_
  rintro e w6 ⟨rfl, hb6⟩
  rw [eqB_self]
  have hB6 := hB5.trans (hb6.mono hB5.size)
  have hZ6 := hb6.size
  replace ho0 := ho0.below hb6 (Nat.le_refl _)
  replace ho1 := ho1.below hb6 (Nat.le_refl _)
  replace ho2 := ho2.below hb6 (Nat.le_refl _)
  go_wp2_with fail
  refine (heldIntS_any _ _ _ _ _ _ _ ho1.ints (by omega) (by omega) (marks_held _ _)).mono ?_
  rintro e w' ⟨rfl, rfl⟩
  go_wp2_with fail
  go_ret
  exact ⟨rfl, hB6⟩
theorem walk_FnExactNumberOf (a0 : Option Addr) (n0 c0 : Nat) (z0 : List Int) (w0 : World) (hA0 : IntsArg w0 a0 n0 z0) : Calls Try.prog 12 #[.slice a0 n0 c0] w0 (RetB true w0) := by
  have hs0 := hA0.2.1
  unfold maxLen at hs0
  by_cases hg0 : n0 ≤ 1048576
  rotate_left
  · have hg0' : ¬ (n0 : Int) ≤ 1048576 := by omega
    go_enter Try.func12, Try.ntmps12
    go_wp2_with fail
    go_ret
    exact ⟨rfl, Below.refl _ _⟩
  have hI0 := hA0.ints hg0
  have hB0 : Below w0.heap.size w0 w0 := Below.refl _ _
  obtain ⟨ans, hans⟩ : ∃ r, r = numberOfF z0 := ⟨_, rfl⟩
  have HANS := Lib.hid hans
  clear hans
  go_enter Try.func12, Try.ntmps12
  go_wp2_with fail
  refine (toIntS_any _ _ _ _ _ ((hI0.below hB0 (Nat.le_refl _)).up hB0.size)).mono ?_
  rintro e w1 ⟨bo0, no0, co0, rfl, ho0, hb1⟩
  have hB1 := hB0.trans (hb1.mono hB0.size)
  have hZ1 := hb1.size
  have hro0 := ho0.rowLt
  go_wp2_with fail
  refine (spec_NumberOf_any _ _ _ _ _ _ ho0.ints).mono ?_
  rintro e w2 ⟨rfl, hb2⟩
  rw [← HANS.out]
  have hB2 := hB1.trans (hb2.mono hB1.size)
  have hZ2 := hb2.size
  replace ho0 := ho0.below hb2 (Nat.le_refl _)
  go_wp2_with fail
  refine (toIntS_any _ _ _ _ _ ((hI0.below hB2 (Nat.le_refl _)).up hB2.size)).mono ?_
  rintro e w3 ⟨bo2, no2, co2, rfl, ho2, hb3⟩
  have hB3 := hB2.trans (hb3.mono hB2.size)
  have hZ3 := hb3.size
  replace ho0 := ho0.below hb3 (Nat.le_refl _)
  have hro2 := ho2.rowLt
  go_wp2_with fail
  refine (impl_NumberOf_any _ _ _ _ _ ho2.ints).mono ?_
  rintro e w4 ⟨rfl, hb4⟩
  rw [← HANS.out]
  have hB4 := hB3.trans (hb4.mono hB3.size)
  have hZ4 := hb4.size
  replace ho0 := ho0.below hb4 (Nat.le_refl _)
  replace ho2 := ho2.below hb4 (Nat.le_refl _)
  go_wp2_with fail
  refine (toIntS_any _ _ _ _ _ ((hI0.below hB4 (Nat.le_refl _)).up hB4.size)).mono ?_
  rintro e w5 ⟨bo4, no4, co4, rfl, ho4, hb5⟩
  have hB5 := hB4.trans (hb5.mono hB4.size)
  have hZ5 := hb5.size
  replace ho0 := ho0.below hb5 (Nat.le_refl _)
  replace ho2 := ho2.below hb5 (Nat.le_refl _)
  have hro4 := ho4.rowLt
  go_wp2_with fail
  refine (eqIntS_any _ _ _ _ _ _ _ _ _ _ _ ho2.ints ho4.ints (Nat.le_refl _) (Nat.le_refl _)).mono ?_
  rintro e w6 ⟨rfl, hb6⟩
  rw [eqB_self]
  have hB6 := hB5.trans (hb6.mono hB5.size)
  have hZ6 := hb6.size
  replace ho0 := ho0.below hb6 (Nat.le_refl _)
  replace ho2 := ho2.below hb6 (Nat.le_refl _)
  replace ho4 := ho4.below hb6 (Nat.le_refl _)
  go_wp2_with fail
  go_ret
  exact ⟨rfl, hB6⟩
theorem walk_FnExactWeightOf (a0 : Option Addr) (n0 c0 : Nat) (z0 : List Int) (w0 : World) (hA0 : IntsArg w0 a0 n0 z0) : Calls Try.prog 13 #[.slice a0 n0 c0] w0 (RetB true w0) := by
  have hs0 := hA0.2.1
  unfold maxLen at hs0
  by_cases hg0 : n0 ≤ 1048576
  rotate_left
  · have hg0' : ¬ (n0 : Int) ≤ 1048576 := by omega
    go_enter Try.func13, Try.ntmps13
    go_wp2_with fail
    go_ret
    exact ⟨rfl, Below.refl _ _⟩
  have hI0 := hA0.ints hg0
  have hB0 : Below w0.heap.size w0 w0 := Below.refl _ _
  obtain ⟨ans, hans⟩ : ∃ r, r = weightF z0 := ⟨_, rfl⟩
  have HANS := Lib.hid hans
  clear hans
  go_enter Try.func13, Try.ntmps13
  go_wp2_with fail
  refine (toIntS_any _ _ _ _ _ ((hI0.below hB0 (Nat.le_refl _)).up hB0.size)).mono ?_
  rintro e w1 ⟨bo0, no0, co0, rfl, ho0, hb1⟩
  have hB1 := hB0.trans (hb1.mono hB0.size)
  have hZ1 := hb1.size
  have hro0 := ho0.rowLt
  go_wp2_with fail
  refine (spec_WeightOf_any _ _ _ _ _ _ ho0.ints).mono ?_
  rintro e w2 ⟨rfl, hb2⟩
  rw [← HANS.out]
  have hB2 := hB1.trans (hb2.mono hB1.size)
  have hZ2 := hb2.size
  replace ho0 := ho0.below hb2 (Nat.le_refl _)
  go_wp2_with fail
  refine (toIntS_any _ _ _ _ _ ((hI0.below hB2 (Nat.le_refl _)).up hB2.size)).mono ?_
  rintro e w3 ⟨bo2, no2, co2, rfl, ho2, hb3⟩
  have hB3 := hB2.trans (hb3.mono hB2.size)
  have hZ3 := hb3.size
  replace ho0 := ho0.below hb3 (Nat.le_refl _)
  have hro2 := ho2.rowLt
  go_wp2_with fail
  refine (impl_WeightOf_any _ _ _ _ _ ho2.ints).mono ?_
  rintro e w4 ⟨rfl, hb4⟩
  rw [← HANS.out]
  have hB4 := hB3.trans (hb4.mono hB3.size)
  have hZ4 := hb4.size
  replace ho0 := ho0.below hb4 (Nat.le_refl _)
  replace ho2 := ho2.below hb4 (Nat.le_refl _)
  go_wp2_with fail
  refine (toIntS_any _ _ _ _ _ ((hI0.below hB4 (Nat.le_refl _)).up hB4.size)).mono ?_
  rintro e w5 ⟨bo4, no4, co4, rfl, ho4, hb5⟩
  have hB5 := hB4.trans (hb5.mono hB4.size)
  have hZ5 := hb5.size
  replace ho0 := ho0.below hb5 (Nat.le_refl _)
  replace ho2 := ho2.below hb5 (Nat.le_refl _)
  have hro4 := ho4.rowLt
  go_wp2_with fail
  refine (eqIntS_any _ _ _ _ _ _ _ _ _ _ _ ho2.ints ho4.ints (Nat.le_refl _) (Nat.le_refl _)).mono ?_
  rintro e w6 ⟨rfl, hb6⟩
  rw [eqB_self]
  have hB6 := hB5.trans (hb6.mono hB5.size)
  have hZ6 := hb6.size
  replace ho0 := ho0.below hb6 (Nat.le_refl _)
  replace ho2 := ho2.below hb6 (Nat.le_refl _)
  replace ho4 := ho4.below hb6 (Nat.le_refl _)
  go_wp2_with fail
  go_ret
  exact ⟨rfl, hB6⟩
theorem walk_FnExactSignedOf (a0 : Option Addr) (n0 c0 : Nat) (z0 : List Int) (w0 : World) (hA0 : IntsArg w0 a0 n0 z0) : Calls Try.prog 14 #[.slice a0 n0 c0] w0 (RetB true w0) := by
  have hs0 := hA0.2.1
  unfold maxLen at hs0
  by_cases hg0 : n0 ≤ 1048576
  rotate_left
  · have hg0' : ¬ (n0 : Int) ≤ 1048576 := by omega
    go_enter Try.func14, Try.ntmps14
    go_wp2_with fail
    go_ret
    exact ⟨rfl, Below.refl _ _⟩
  have hI0 := hA0.ints hg0
  have hB0 : Below w0.heap.size w0 w0 := Below.refl _ _
  obtain ⟨ans, hans⟩ : ∃ r, r = signedF z0 := ⟨_, rfl⟩
  have HANS := Lib.hid hans
  clear hans
  go_enter Try.func14, Try.ntmps14
  go_wp2_with fail
  refine (toIntS_any _ _ _ _ _ ((hI0.below hB0 (Nat.le_refl _)).up hB0.size)).mono ?_
  rintro e w1 ⟨bo0, no0, co0, rfl, ho0, hb1⟩
  have hB1 := hB0.trans (hb1.mono hB0.size)
  have hZ1 := hb1.size
  have hro0 := ho0.rowLt
  go_wp2_with fail
  refine (spec_SignedOf_any _ _ _ _ _ _ ho0.ints).mono ?_
  rintro e w2 ⟨rfl, hb2⟩
  rw [← HANS.out]
  have hB2 := hB1.trans (hb2.mono hB1.size)
  have hZ2 := hb2.size
  replace ho0 := ho0.below hb2 (Nat.le_refl _)
  go_wp2_with fail
  refine (toIntS_any _ _ _ _ _ ((hI0.below hB2 (Nat.le_refl _)).up hB2.size)).mono ?_
  rintro e w3 ⟨bo2, no2, co2, rfl, ho2, hb3⟩
  have hB3 := hB2.trans (hb3.mono hB2.size)
  have hZ3 := hb3.size
  replace ho0 := ho0.below hb3 (Nat.le_refl _)
  have hro2 := ho2.rowLt
  go_wp2_with fail
  refine (impl_SignedOf_any _ _ _ _ _ ho2.ints).mono ?_
  rintro e w4 ⟨rfl, hb4⟩
  rw [← HANS.out]
  have hB4 := hB3.trans (hb4.mono hB3.size)
  have hZ4 := hb4.size
  replace ho0 := ho0.below hb4 (Nat.le_refl _)
  replace ho2 := ho2.below hb4 (Nat.le_refl _)
  go_wp2_with fail
  refine (toIntS_any _ _ _ _ _ ((hI0.below hB4 (Nat.le_refl _)).up hB4.size)).mono ?_
  rintro e w5 ⟨bo4, no4, co4, rfl, ho4, hb5⟩
  have hB5 := hB4.trans (hb5.mono hB4.size)
  have hZ5 := hb5.size
  replace ho0 := ho0.below hb5 (Nat.le_refl _)
  replace ho2 := ho2.below hb5 (Nat.le_refl _)
  have hro4 := ho4.rowLt
  go_wp2_with fail
  refine (eqIntS_any _ _ _ _ _ _ _ _ _ _ _ ho2.ints ho4.ints (Nat.le_refl _) (Nat.le_refl _)).mono ?_
  rintro e w6 ⟨rfl, hb6⟩
  rw [eqB_self]
  have hB6 := hB5.trans (hb6.mono hB5.size)
  have hZ6 := hb6.size
  replace ho0 := ho0.below hb6 (Nat.le_refl _)
  replace ho2 := ho2.below hb6 (Nat.le_refl _)
  replace ho4 := ho4.below hb6 (Nat.le_refl _)
  go_wp2_with fail
  go_ret
  exact ⟨rfl, hB6⟩
theorem walk_FnExactParityOf (a0 : Option Addr) (n0 c0 : Nat) (z0 : List Int) (a1 : Option Addr) (n1 c1 : Nat) (z1 : List Int) (w0 : World) (hA0 : IntsArg w0 a0 n0 z0) (hA1 : IntsArg w0 a1 n1 z1) : Calls Try.prog 11 #[.slice a0 n0 c0, .slice a1 n1 c1] w0 (RetB true w0) := by
  have hs0 := hA0.2.1
  unfold maxLen at hs0
  have hs1 := hA1.2.1
  unfold maxLen at hs1
  by_cases hg0 : n0 ≤ 1048576
  rotate_left
  · have hg0' : ¬ (n0 : Int) ≤ 1048576 := by omega
    go_enter Try.func11, Try.ntmps11
    go_wp2_with fail
    go_ret
    exact ⟨rfl, Below.refl _ _⟩
  by_cases hg1 : n1 ≤ 1048576
  rotate_left
  · have hg1' : ¬ (n1 : Int) ≤ 1048576 := by omega
    go_enter Try.func11, Try.ntmps11
    go_wp2_with fail
    go_ret
    exact ⟨rfl, Below.refl _ _⟩
  have hI0 := hA0.ints hg0
  have hI1 := hA1.ints hg1
  have hB0 : Below w0.heap.size w0 w0 := Below.refl _ _
  obtain ⟨ans, hans⟩ : ∃ r, r = parityF z0 z1 := ⟨_, rfl⟩
  have HANS := Lib.hid hans
  clear hans
  go_enter Try.func11, Try.ntmps11
  go_wp2_with fail
  refine (toIntS_any _ _ _ _ _ ((hI0.below hB0 (Nat.le_refl _)).up hB0.size)).mono ?_
  rintro e w1 ⟨bo0, no0, co0, rfl, ho0, hb1⟩
  have hB1 := hB0.trans (hb1.mono hB0.size)
  have hZ1 := hb1.size
  have hro0 := ho0.rowLt
  go_wp2_with fail
  refine (toIntS_any _ _ _ _ _ ((hI1.below hB1 (Nat.le_refl _)).up hB1.size)).mono ?_
  rintro e w2 ⟨bo1, no1, co1, rfl, ho1, hb2⟩
  have hB2 := hB1.trans (hb2.mono hB1.size)
  have hZ2 := hb2.size
  replace ho0 := ho0.below hb2 (Nat.le_refl _)
  have hro1 := ho1.rowLt
  go_wp2_with fail
  refine (spec_ParityOf_any _ _ _ _ _ _ _ _ _ _ _ ho0.ints ho1.ints).mono ?_
  rintro e w3 ⟨rfl, hb3⟩
  rw [← HANS.out]
  have hB3 := hB2.trans (hb3.mono hB2.size)
  have hZ3 := hb3.size
  replace ho0 := ho0.below hb3 (Nat.le_refl _)
  replace ho1 := ho1.below hb3 (Nat.le_refl _)
  go_wp2_with fail
  refine (toIntS_any _ _ _ _ _ ((hI0.below hB3 (Nat.le_refl _)).up hB3.size)).mono ?_
  rintro e w4 ⟨bo3, no3, co3, rfl, ho3, hb4⟩
  have hB4 := hB3.trans (hb4.mono hB3.size)
  have hZ4 := hb4.size
  replace ho0 := ho0.below hb4 (Nat.le_refl _)
  replace ho1 := ho1.below hb4 (Nat.le_refl _)
  have hro3 := ho3.rowLt
  go_wp2_with fail
  refine (toIntS_any _ _ _ _ _ ((hI1.below hB4 (Nat.le_refl _)).up hB4.size)).mono ?_
  rintro e w5 ⟨bo4, no4, co4, rfl, ho4, hb5⟩
  have hB5 := hB4.trans (hb5.mono hB4.size)
  have hZ5 := hb5.size
  replace ho0 := ho0.below hb5 (Nat.le_refl _)
  replace ho1 := ho1.below hb5 (Nat.le_refl _)
  replace ho3 := ho3.below hb5 (Nat.le_refl _)
  have hro4 := ho4.rowLt
  go_wp2_with fail
  refine (impl_ParityOf_any _ _ _ _ _ _ _ _ _ ho3.ints ho4.ints).mono ?_
  rintro e w6 ⟨rfl, hb6⟩
  rw [← HANS.out]
  have hB6 := hB5.trans (hb6.mono hB5.size)
  have hZ6 := hb6.size
  replace ho0 := ho0.below hb6 (Nat.le_refl _)
  replace ho1 := ho1.below hb6 (Nat.le_refl _)
  replace ho3 := ho3.below hb6 (Nat.le_refl _)
  replace ho4 := ho4.below hb6 (Nat.le_refl _)
  go_wp2_with fail
  refine (toIntS_any _ _ _ _ _ ((hI0.below hB6 (Nat.le_refl _)).up hB6.size)).mono ?_
  rintro e w7 ⟨bo6, no6, co6, rfl, ho6, hb7⟩
  have hB7 := hB6.trans (hb7.mono hB6.size)
  have hZ7 := hb7.size
  replace ho0 := ho0.below hb7 (Nat.le_refl _)
  replace ho1 := ho1.below hb7 (Nat.le_refl _)
  replace ho3 := ho3.below hb7 (Nat.le_refl _)
  replace ho4 := ho4.below hb7 (Nat.le_refl _)
  have hro6 := ho6.rowLt
  go_wp2_with fail
  refine (eqIntS_any _ _ _ _ _ _ _ _ _ _ _ ho3.ints ho6.ints (Nat.le_refl _) (Nat.le_refl _)).mono ?_
  rintro e w8 ⟨rfl, hb8⟩
  rw [eqB_self]
  have hB8 := hB7.trans (hb8.mono hB7.size)
  have hZ8 := hb8.size
  replace ho0 := ho0.below hb8 (Nat.le_refl _)
  replace ho1 := ho1.below hb8 (Nat.le_refl _)
  replace ho3 := ho3.below hb8 (Nat.le_refl _)
  replace ho4 := ho4.below hb8 (Nat.le_refl _)
  replace ho6 := ho6.below hb8 (Nat.le_refl _)
  go_wp2_with fail
  refine (toIntS_any _ _ _ _ _ ((hI1.below hB8 (Nat.le_refl _)).up hB8.size)).mono ?_
  rintro e w9 ⟨bo7, no7, co7, rfl, ho7, hb9⟩
  have hB9 := hB8.trans (hb9.mono hB8.size)
  have hZ9 := hb9.size
  replace ho0 := ho0.below hb9 (Nat.le_refl _)
  replace ho1 := ho1.below hb9 (Nat.le_refl _)
  replace ho3 := ho3.below hb9 (Nat.le_refl _)
  replace ho4 := ho4.below hb9 (Nat.le_refl _)
  replace ho6 := ho6.below hb9 (Nat.le_refl _)
  have hro7 := ho7.rowLt
  go_wp2_with fail
  refine (eqIntS_any _ _ _ _ _ _ _ _ _ _ _ ho4.ints ho7.ints (Nat.le_refl _) (Nat.le_refl _)).mono ?_
  rintro e w10 ⟨rfl, hb10⟩
  rw [eqB_self]
  have hB10 := hB9.trans (hb10.mono hB9.size)
  have hZ10 := hb10.size
  replace ho0 := ho0.below hb10 (Nat.le_refl _)
  replace ho1 := ho1.below hb10 (Nat.le_refl _)
  replace ho3 := ho3.below hb10 (Nat.le_refl _)
  replace ho4 := ho4.below hb10 (Nat.le_refl _)
  replace ho6 := ho6.below hb10 (Nat.le_refl _)
  replace ho7 := ho7.below hb10 (Nat.le_refl _)
  go_wp2_with fail
  go_ret
  exact ⟨rfl, hB10⟩
theorem walk_FnExactOrderMod (x0 : Int) (x1 : Int) (w0 : World)  : Calls Try.prog 9 #[.int .i64 x0, .int .i64 x1] w0 (RetB true w0) := by
  have hB0 : Below w0.heap.size w0 w0 := Below.refl _ _
  obtain ⟨ans, hans⟩ : ∃ r, r = orderF x0 x1 := ⟨_, rfl⟩
  have HANS := Lib.hid hans
  clear hans
  go_enter Try.func9, Try.ntmps9
  go_wp2_with fail
  refine (spec_OrderMod_any _ _ _).mono ?_
  rintro e w1 ⟨rfl, hb1⟩
  rw [← HANS.out]
  have hB1 := hB0.trans (hb1.mono hB0.size)
  have hZ1 := hb1.size
  go_wp2_with fail
  refine (impl_OrderMod_any _ _ _).mono ?_
  rintro e w2 ⟨rfl, hb2⟩
  rw [← HANS.out]
  have hB2 := hB1.trans (hb2.mono hB1.size)
  have hZ2 := hb2.size
  go_wp2_with fail
  go_ret
  exact ⟨rfl, hB2⟩
end Go.Proofs.Ythnmdcfpddpdfaa
