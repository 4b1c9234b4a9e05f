/-
  The laws on SortWith, SortsAll, FirstUnsorted, NeedlessSteps and PruneNetwork: their walks (printed by gen_law.py).
-/
import Derived.Test.YtoeobhjpiimomaaNet8
namespace Go.Proofs.Ytoeobhjpiimomaa
open Go.RowKit

theorem walk_FnExactSortWith (x0 : Int) (a1 : Option Addr) (n1 c1 : Nat) (z1 : List Int) (a2 : Option Addr) (n2 c2 : Nat) (z2 : List Int) (w0 : World) (hA1 : FlatArg 2 w0 a1 n1 z1) (hA2 : IntsArg w0 a2 n2 z2) : Calls Try.prog 7 #[.int .i64 x0, .slice a1 n1 c1, .slice a2 n2 c2] w0 (RetB true w0) := by
  have hs2 := hA2.2.1
  unfold maxLen at hs2
  have hs1 := hA1.2.1
  unfold maxLen at hs1
  by_cases hg2 : n2 ≤ 1048576
  rotate_left
  · have hg2' : ¬ (n2 : Int) ≤ 1048576 := by omega
    go_enter Try.func7, Try.ntmps7
    go_wp2_with fail
    go_ret
    exact ⟨rfl, Below.refl _ _⟩
  by_cases hg1 : n1 ≤ 1048576
  rotate_left
  · go_enter Try.func7, Try.ntmps7
    go_wp2_with fail
    refine (szStepS_any _ _ _ _ _ (by omega) (by omega) hA1.2.1).mono ?_
    rintro e w' ⟨rfl, rfl⟩
    rw [show szF 1048576 n1 = -1 from by rw [szF, if_pos (by omega)]]
    go_wp2_with fail
    go_ret
    exact ⟨rfl, Below.refl _ _⟩
  have hI1 := hA1.flat hg1
  have hI2 := hA2.ints hg2
  have hB0 : Below w0.heap.size w0 w0 := Below.refl _ _
  obtain ⟨ans, hans⟩ : ∃ r, r = sortWithF x0 z1 z2 := ⟨_, rfl⟩
  have HANS := Lib.hid hans
  clear hans
  go_enter Try.func7, Try.ntmps7
  go_wp2_with fail
  refine (szStepS_any _ _ _ _ _ (by omega) (by omega) hA1.2.1).mono ?_
  rintro e w' ⟨rfl, rfl⟩
  rw [show szF 1048576 n1 = 1048576 - n1 from by rw [szF, if_neg (by omega)]]
  go_wp2_with fail
  refine (toStepS_any _ _ _ _ _ ((hI1.below hB0 (Nat.le_refl _)).up hB0.size)).mono ?_
  rintro e w1 ⟨bo0, no0, co0, rfl, ho0, hb1⟩
  have hB1 := hB0.trans (hb1.mono hB0.size)
  have hZ1 := hb1.size
  have hro0 := ho0.rowLt
  have hLo0 := ho0.le
  go_wp2_with fail
  refine (toIntS_any _ _ _ _ _ ((hI2.below hB1 (Nat.le_refl _)).up hB1.size)).mono ?_
  rintro e w2 ⟨bo1, no1, co1, rfl, ho1, hb2⟩
  have hB2 := hB1.trans (hb2.mono hB1.size)
  have hZ2 := hb2.size
  replace ho0 := ho0.below hb2 (Nat.le_refl _)
  have hro1 := ho1.rowLt
  have hLo1 := ho1.le
  go_wp2_with fail
  refine (spec_SortWith_any _ _ _ _ _ _ _ _ _ _ ho0.flat ho1.ints).mono ?_
  rintro e w3 ⟨bo2, no2, co2, rfl, ho2, hb3⟩
  rw [← HANS.out]
  rw [← HANS.out] at ho2
  have hB3 := hB2.trans (hb3.mono hB2.size)
  have hZ3 := hb3.size
  replace ho0 := ho0.below hb3 (Nat.le_refl _)
  replace ho1 := ho1.below hb3 (Nat.le_refl _)
  have hro2 := ho2.rowLt
  have hLo2 := ho2.le
  go_wp2_with fail
  refine (toStepS_any _ _ _ _ _ ((hI1.below hB3 (Nat.le_refl _)).up hB3.size)).mono ?_
  rintro e w4 ⟨bo3, no3, co3, rfl, ho3, hb4⟩
  have hB4 := hB3.trans (hb4.mono hB3.size)
  have hZ4 := hb4.size
  replace ho0 := ho0.below hb4 (Nat.le_refl _)
  replace ho1 := ho1.below hb4 (Nat.le_refl _)
  replace ho2 := ho2.below hb4 (Nat.le_refl _)
  have hro3 := ho3.rowLt
  have hLo3 := ho3.le
  go_wp2_with fail
  refine (toIntS_any _ _ _ _ _ ((hI2.below hB4 (Nat.le_refl _)).up hB4.size)).mono ?_
  rintro e w5 ⟨bo4, no4, co4, rfl, ho4, hb5⟩
  have hB5 := hB4.trans (hb5.mono hB4.size)
  have hZ5 := hb5.size
  replace ho0 := ho0.below hb5 (Nat.le_refl _)
  replace ho1 := ho1.below hb5 (Nat.le_refl _)
  replace ho2 := ho2.below hb5 (Nat.le_refl _)
  replace ho3 := ho3.below hb5 (Nat.le_refl _)
  have hro4 := ho4.rowLt
  have hLo4 := ho4.le
  go_wp2_with fail
  refine (impl_SortWith_any _ _ _ _ _ _ _ _ _ _ ho3.flat ho4.ints).mono ?_
  rintro e w6 ⟨bo5, no5, co5, rfl, ho5, hb6⟩
  rw [← HANS.out]
  rw [← HANS.out] at ho5
  have hB6 := hB5.trans (hb6.mono hB5.size)
  have hZ6 := hb6.size
  replace ho0 := ho0.below hb6 (Nat.le_refl _)
  replace ho1 := ho1.below hb6 (Nat.le_refl _)
  replace ho2 := ho2.below hb6 (Nat.le_refl _)
  replace ho3 := ho3.below hb6 (Nat.le_refl _)
  replace ho4 := ho4.below hb6 (Nat.le_refl _)
  have hro5 := ho5.rowLt
  have hLo5 := ho5.le
  go_wp2_with fail
  refine (eqIntS_any _ _ _ _ _ _ _ _ _ _ _ ho5.ints ho2.ints (Nat.le_refl _) (Nat.le_refl _)).mono ?_
  rintro e w7 ⟨rfl, hb7⟩
  rw [eqB_self]
  have hB7 := hB6.trans (hb7.mono hB6.size)
  have hZ7 := hb7.size
  replace ho0 := ho0.below hb7 (Nat.le_refl _)
  replace ho1 := ho1.below hb7 (Nat.le_refl _)
  replace ho2 := ho2.below hb7 (Nat.le_refl _)
  replace ho3 := ho3.below hb7 (Nat.le_refl _)
  replace ho4 := ho4.below hb7 (Nat.le_refl _)
  replace ho5 := ho5.below hb7 (Nat.le_refl _)
  go_wp2_with fail
  refine (toStepS_any _ _ _ _ _ ((hI1.below hB7 (Nat.le_refl _)).up hB7.size)).mono ?_
  rintro e w8 ⟨bo6, no6, co6, rfl, ho6, hb8⟩
  have hB8 := hB7.trans (hb8.mono hB7.size)
  have hZ8 := hb8.size
  replace ho0 := ho0.below hb8 (Nat.le_refl _)
  replace ho1 := ho1.below hb8 (Nat.le_refl _)
  replace ho2 := ho2.below hb8 (Nat.le_refl _)
  replace ho3 := ho3.below hb8 (Nat.le_refl _)
  replace ho4 := ho4.below hb8 (Nat.le_refl _)
  replace ho5 := ho5.below hb8 (Nat.le_refl _)
  have hro6 := ho6.rowLt
  have hLo6 := ho6.le
  go_wp2_with fail
  refine (eqStepS_any _ _ _ _ _ _ _ _ _ _ _ ho3.flat ho6.flat (Nat.le_refl _) (Nat.le_refl _)).mono ?_
  rintro e w9 ⟨rfl, hb9⟩
  rw [eqB_self]
  have hB9 := hB8.trans (hb9.mono hB8.size)
  have hZ9 := hb9.size
  replace ho0 := ho0.below hb9 (Nat.le_refl _)
  replace ho1 := ho1.below hb9 (Nat.le_refl _)
  replace ho2 := ho2.below hb9 (Nat.le_refl _)
  replace ho3 := ho3.below hb9 (Nat.le_refl _)
  replace ho4 := ho4.below hb9 (Nat.le_refl _)
  replace ho5 := ho5.below hb9 (Nat.le_refl _)
  replace ho6 := ho6.below hb9 (Nat.le_refl _)
  go_wp2_with fail
  refine (toIntS_any _ _ _ _ _ ((hI2.below hB9 (Nat.le_refl _)).up hB9.size)).mono ?_
  rintro e w10 ⟨bo7, no7, co7, rfl, ho7, hb10⟩
  have hB10 := hB9.trans (hb10.mono hB9.size)
  have hZ10 := hb10.size
  replace ho0 := ho0.below hb10 (Nat.le_refl _)
  replace ho1 := ho1.below hb10 (Nat.le_refl _)
  replace ho2 := ho2.below hb10 (Nat.le_refl _)
  replace ho3 := ho3.below hb10 (Nat.le_refl _)
  replace ho4 := ho4.below hb10 (Nat.le_refl _)
  replace ho5 := ho5.below hb10 (Nat.le_refl _)
  replace ho6 := ho6.below hb10 (Nat.le_refl _)
  have hro7 := ho7.rowLt
  have hLo7 := ho7.le
  go_wp2_with fail
  refine (eqIntS_any _ _ _ _ _ _ _ _ _ _ _ ho4.ints ho7.ints (Nat.le_refl _) (Nat.le_refl _)).mono ?_
  rintro e w11 ⟨rfl, hb11⟩
  rw [eqB_self]
  have hB11 := hB10.trans (hb11.mono hB10.size)
  have hZ11 := hb11.size
  replace ho0 := ho0.below hb11 (Nat.le_refl _)
  replace ho1 := ho1.below hb11 (Nat.le_refl _)
  replace ho2 := ho2.below hb11 (Nat.le_refl _)
  replace ho3 := ho3.below hb11 (Nat.le_refl _)
  replace ho4 := ho4.below hb11 (Nat.le_refl _)
  replace ho5 := ho5.below hb11 (Nat.le_refl _)
  replace ho6 := ho6.below hb11 (Nat.le_refl _)
  replace ho7 := ho7.below hb11 (Nat.le_refl _)
  go_wp2_with fail
  refine (markStepS_any _ _ _ _ _ _ _ ho3 (by omega) (by omega)).mono ?_
  rintro e w12 ⟨rfl, hm12, hg12⟩
  have hB12 : Below w0.heap.size w0 w12 := hB11.grown hg12 hB11.size (fun k hk => by have := hro3 k hk; omega)
  have hZ12 := hg12.size
  replace ho0 := ho0.other hg12 (fun k l h1 h2 => by have := hro0 k h1; have := hro3 l h2; omega)
  replace ho1 := ho1.other hg12 (fun k l h1 h2 => by have := hro1 k h1; have := hro3 l h2; omega)
  replace ho2 := ho2.other hg12 (fun k l h1 h2 => by have := hro2 k h1; have := hro3 l h2; omega)
  replace ho4 := ho4.other hg12 (fun k l h1 h2 => by have := hro4 k h1; have := hro3 l h2; omega)
  replace ho5 := ho5.other hg12 (fun k l h1 h2 => by have := hro5 k h1; have := hro3 l h2; omega)
  replace ho6 := ho6.other hg12 (fun k l h1 h2 => by have := hro6 k h1; have := hro3 l h2; omega)
  replace ho7 := ho7.other hg12 (fun k l h1 h2 => by have := hro7 k h1; have := hro3 l h2; omega)
  replace ho3 := hm12
  clear hm12 hg12
  go_wp2_with fail
  refine (markIntS_any _ _ _ _ _ _ _ ho4 (by omega) (by omega)).mono ?_
  rintro e w13 ⟨rfl, hm13, hg13⟩
  have hB13 : Below w0.heap.size w0 w13 := hB12.grown hg13 hB12.size (fun k hk => by have := hro4 k hk; omega)
  have hZ13 := hg13.size
  replace ho0 := ho0.other hg13 (fun k l h1 h2 => by have := hro0 k h1; have := hro4 l h2; omega)
  replace ho1 := ho1.other hg13 (fun k l h1 h2 => by have := hro1 k h1; have := hro4 l h2; omega)
  replace ho2 := ho2.other hg13 (fun k l h1 h2 => by have := hro2 k h1; have := hro4 l h2; omega)
  replace ho3 := ho3.other hg13 (fun k l h1 h2 => by have := hro3 k h1; have := hro4 l h2; omega)
  replace ho5 := ho5.other hg13 (fun k l h1 h2 => by have := hro5 k h1; have := hro4 l h2; omega)
  replace ho6 := ho6.other hg13 (fun k l h1 h2 => by have := hro6 k h1; have := hro4 l h2; omega)
  replace ho7 := ho7.other hg13 (fun k l h1 h2 => by have := hro7 k h1; have := hro4 l h2; omega)
  replace ho4 := hm13
  clear hm13 hg13
  go_wp2_with fail
  refine (eqIntS_any _ _ _ _ _ _ _ _ _ _ _ ho5.ints ho2.ints (Nat.le_refl _) (Nat.le_refl _)).mono ?_
  rintro e w14 ⟨rfl, hb14⟩
  rw [eqB_self]
  have hB14 := hB13.trans (hb14.mono hB13.size)
  have hZ14 := hb14.size
  replace ho0 := ho0.below hb14 (Nat.le_refl _)
  replace ho1 := ho1.below hb14 (Nat.le_refl _)
  replace ho2 := ho2.below hb14 (Nat.le_refl _)
  replace ho3 := ho3.below hb14 (Nat.le_refl _)
  replace ho4 := ho4.below hb14 (Nat.le_refl _)
  replace ho5 := ho5.below hb14 (Nat.le_refl _)
  replace ho6 := ho6.below hb14 (Nat.le_refl _)
  replace ho7 := ho7.below hb14 (Nat.le_refl _)
  go_wp2_with fail
  refine (markIntS_any _ _ _ _ _ 1 _ ho5 (by omega) (by omega)).mono ?_
  rintro e w15 ⟨rfl, hm15, hg15⟩
  have hB15 : Below w0.heap.size w0 w15 := hB14.grown hg15 hB14.size (fun k hk => by have := hro5 k hk; omega)
  have hZ15 := hg15.size
  replace ho0 := ho0.other hg15 (fun k l h1 h2 => by have := hro0 k h1; have := hro5 l h2; omega)
  replace ho1 := ho1.other hg15 (fun k l h1 h2 => by have := hro1 k h1; have := hro5 l h2; omega)
  replace ho2 := ho2.other hg15 (fun k l h1 h2 => by have := hro2 k h1; have := hro5 l h2; omega)
  replace ho3 := ho3.other hg15 (fun k l h1 h2 => by have := hro3 k h1; have := hro5 l h2; omega)
  replace ho4 := ho4.other hg15 (fun k l h1 h2 => by have := hro4 k h1; have := hro5 l h2; omega)
  replace ho6 := ho6.other hg15 (fun k l h1 h2 => by have := hro6 k h1; have := hro5 l h2; omega)
  replace ho7 := ho7.other hg15 (fun k l h1 h2 => by have := hro7 k h1; have := hro5 l h2; omega)
  replace ho5 := hm15
  clear hm15 hg15
  go_wp2_with fail
  refine (heldIntS_any _ _ _ _ _ _ _ ho5.ints (by omega) (by omega) (marks_held _ _)).mono ?_
  rintro e w' ⟨rfl, rfl⟩
  go_wp2_with fail
  refine (toStepS_any _ _ _ _ _ ((hI1.below hB15 (Nat.le_refl _)).up hB15.size)).mono ?_
  rintro e w16 ⟨bo8, no8, co8, rfl, ho8, hb16⟩
  have hB16 := hB15.trans (hb16.mono hB15.size)
  have hZ16 := hb16.size
  replace ho0 := ho0.below hb16 (Nat.le_refl _)
  replace ho1 := ho1.below hb16 (Nat.le_refl _)
  replace ho2 := ho2.below hb16 (Nat.le_refl _)
  replace ho3 := ho3.below hb16 (Nat.le_refl _)
  replace ho4 := ho4.below hb16 (Nat.le_refl _)
  replace ho5 := ho5.below hb16 (Nat.le_refl _)
  replace ho6 := ho6.below hb16 (Nat.le_refl _)
  replace ho7 := ho7.below hb16 (Nat.le_refl _)
  have hro8 := ho8.rowLt
  have hLo8 := ho8.le
  go_wp2_with fail
  refine (toIntS_any _ _ _ _ _ ((hI2.below hB16 (Nat.le_refl _)).up hB16.size)).mono ?_
  rintro e w17 ⟨bo9, no9, co9, rfl, ho9, hb17⟩
  have hB17 := hB16.trans (hb17.mono hB16.size)
  have hZ17 := hb17.size
  replace ho0 := ho0.below hb17 (Nat.le_refl _)
  replace ho1 := ho1.below hb17 (Nat.le_refl _)
  replace ho2 := ho2.below hb17 (Nat.le_refl _)
  replace ho3 := ho3.below hb17 (Nat.le_refl _)
  replace ho4 := ho4.below hb17 (Nat.le_refl _)
  replace ho5 := ho5.below hb17 (Nat.le_refl _)
  replace ho6 := ho6.below hb17 (Nat.le_refl _)
  replace ho7 := ho7.below hb17 (Nat.le_refl _)
  replace ho8 := ho8.below hb17 (Nat.le_refl _)
  have hro9 := ho9.rowLt
  have hLo9 := ho9.le
  go_wp2_with fail
  refine (impl_SortWith_any _ _ _ _ _ _ _ _ _ _ ho8.flat ho9.ints).mono ?_
  rintro e w18 ⟨bo10, no10, co10, rfl, ho10, hb18⟩
  rw [← HANS.out]
  rw [← HANS.out] at ho10
  have hB18 := hB17.trans (hb18.mono hB17.size)
  have hZ18 := hb18.size
  replace ho0 := ho0.below hb18 (Nat.le_refl _)
  replace ho1 := ho1.below hb18 (Nat.le_refl _)
  replace ho2 := ho2.below hb18 (Nat.le_refl _)
  replace ho3 := ho3.below hb18 (Nat.le_refl _)
  replace ho4 := ho4.below hb18 (Nat.le_refl _)
  replace ho5 := ho5.below hb18 (Nat.le_refl _)
  replace ho6 := ho6.below hb18 (Nat.le_refl _)
  replace ho7 := ho7.below hb18 (Nat.le_refl _)
  replace ho8 := ho8.below hb18 (Nat.le_refl _)
  replace ho9 := ho9.below hb18 (Nat.le_refl _)
  have hro10 := ho10.rowLt
  have hLo10 := ho10.le
  go_wp2_with fail
  refine (eqIntS_any _ _ _ _ _ _ _ _ _ _ _ ho10.ints ho2.ints (Nat.le_refl _) (Nat.le_refl _)).mono ?_
  rintro e w19 ⟨rfl, hb19⟩
  rw [eqB_self]
  have hB19 := hB18.trans (hb19.mono hB18.size)
  have hZ19 := hb19.size
  replace ho0 := ho0.below hb19 (Nat.le_refl _)
  replace ho1 := ho1.below hb19 (Nat.le_refl _)
  replace ho2 := ho2.below hb19 (Nat.le_refl _)
  replace ho3 := ho3.below hb19 (Nat.le_refl _)
  replace ho4 := ho4.below hb19 (Nat.le_refl _)
  replace ho5 := ho5.below hb19 (Nat.le_refl _)
  replace ho6 := ho6.below hb19 (Nat.le_refl _)
  replace ho7 := ho7.below hb19 (Nat.le_refl _)
  replace ho8 := ho8.below hb19 (Nat.le_refl _)
  replace ho9 := ho9.below hb19 (Nat.le_refl _)
  replace ho10 := ho10.below hb19 (Nat.le_refl _)
  go_wp2_with fail
  refine (heldIntS_any _ _ _ _ _ _ _ ho5.ints (by omega) (by omega) (marks_held _ _)).mono ?_
  rintro e w' ⟨rfl, rfl⟩
  go_wp2_with fail
  go_ret
  exact ⟨rfl, hB19⟩
theorem walk_FnExactSortsAll (x0 : Int) (a1 : Option Addr) (n1 c1 : Nat) (z1 : List Int) (w0 : World) (hA1 : FlatArg 2 w0 a1 n1 z1) : Calls Try.prog 6 #[.int .i64 x0, .slice a1 n1 c1] w0 (RetB true w0) := by
  have hs1 := hA1.2.1
  unfold maxLen at hs1
  by_cases hg1 : n1 ≤ 1048576
  rotate_left
  · go_enter Try.func6, Try.ntmps6
    go_wp2_with fail
    refine (szStepS_any _ _ _ _ _ (by omega) (by omega) hA1.2.1).mono ?_
    rintro e w' ⟨rfl, rfl⟩
    rw [show szF 1048576 n1 = -1 from by rw [szF, if_pos (by omega)]]
    go_wp2_with fail
    go_ret
    exact ⟨rfl, Below.refl _ _⟩
  have hI1 := hA1.flat hg1
  have hB0 : Below w0.heap.size w0 w0 := Below.refl _ _
  obtain ⟨ans, hans⟩ : ∃ r, r = sortsAllF x0 z1 := ⟨_, rfl⟩
  have HANS := Lib.hid hans
  clear hans
  go_enter Try.func6, Try.ntmps6
  go_wp2_with fail
  refine (szStepS_any _ _ _ _ _ (by omega) (by omega) hA1.2.1).mono ?_
  rintro e w' ⟨rfl, rfl⟩
  rw [show szF 1048576 n1 = 1048576 - n1 from by rw [szF, if_neg (by omega)]]
  go_wp2_with fail
  refine (toStepS_any _ _ _ _ _ ((hI1.below hB0 (Nat.le_refl _)).up hB0.size)).mono ?_
  rintro e w1 ⟨bo0, no0, co0, rfl, ho0, hb1⟩
  have hB1 := hB0.trans (hb1.mono hB0.size)
  have hZ1 := hb1.size
  have hro0 := ho0.rowLt
  have hLo0 := ho0.le
  go_wp2_with fail
  refine (spec_SortsAll_any _ _ _ _ _ _ ho0.flat).mono ?_
  rintro e w2 ⟨rfl, hb2⟩
  rw [← HANS.out]
  have hB2 := hB1.trans (hb2.mono hB1.size)
  have hZ2 := hb2.size
  replace ho0 := ho0.below hb2 (Nat.le_refl _)
  go_wp2_with fail
  refine (toStepS_any _ _ _ _ _ ((hI1.below hB2 (Nat.le_refl _)).up hB2.size)).mono ?_
  rintro e w3 ⟨bo2, no2, co2, rfl, ho2, hb3⟩
  have hB3 := hB2.trans (hb3.mono hB2.size)
  have hZ3 := hb3.size
  replace ho0 := ho0.below hb3 (Nat.le_refl _)
  have hro2 := ho2.rowLt
  have hLo2 := ho2.le
  go_wp2_with fail
  refine (impl_SortsAll_any _ _ _ _ _ _ ho2.flat).mono ?_
  rintro e w4 ⟨rfl, hb4⟩
  rw [← HANS.out]
  have hB4 := hB3.trans (hb4.mono hB3.size)
  have hZ4 := hb4.size
  replace ho0 := ho0.below hb4 (Nat.le_refl _)
  replace ho2 := ho2.below hb4 (Nat.le_refl _)
  go_wp2_with fail
  refine (toStepS_any _ _ _ _ _ ((hI1.below hB4 (Nat.le_refl _)).up hB4.size)).mono ?_
  rintro e w5 ⟨bo4, no4, co4, rfl, ho4, hb5⟩
  have hB5 := hB4.trans (hb5.mono hB4.size)
  have hZ5 := hb5.size
  replace ho0 := ho0.below hb5 (Nat.le_refl _)
  replace ho2 := ho2.below hb5 (Nat.le_refl _)
  have hro4 := ho4.rowLt
  have hLo4 := ho4.le
  go_wp2_with fail
  refine (eqStepS_any _ _ _ _ _ _ _ _ _ _ _ ho2.flat ho4.flat (Nat.le_refl _) (Nat.le_refl _)).mono ?_
  rintro e w6 ⟨rfl, hb6⟩
  rw [eqB_self]
  have hB6 := hB5.trans (hb6.mono hB5.size)
  have hZ6 := hb6.size
  replace ho0 := ho0.below hb6 (Nat.le_refl _)
  replace ho2 := ho2.below hb6 (Nat.le_refl _)
  replace ho4 := ho4.below hb6 (Nat.le_refl _)
  go_wp2_with fail
  go_ret
  exact ⟨rfl, hB6⟩
theorem walk_FnExactFirstUnsorted (x0 : Int) (a1 : Option Addr) (n1 c1 : Nat) (z1 : List Int) (w0 : World) (hA1 : FlatArg 2 w0 a1 n1 z1) : Calls Try.prog 9 #[.int .i64 x0, .slice a1 n1 c1] w0 (RetB true w0) := by
  have hs1 := hA1.2.1
  unfold maxLen at hs1
  by_cases hg1 : n1 ≤ 1048576
  rotate_left
  · go_enter Try.func9, Try.ntmps9
    go_wp2_with fail
    refine (szStepS_any _ _ _ _ _ (by omega) (by omega) hA1.2.1).mono ?_
    rintro e w' ⟨rfl, rfl⟩
    rw [show szF 1048576 n1 = -1 from by rw [szF, if_pos (by omega)]]
    go_wp2_with fail
    go_ret
    exact ⟨rfl, Below.refl _ _⟩
  have hI1 := hA1.flat hg1
  have hB0 : Below w0.heap.size w0 w0 := Below.refl _ _
  obtain ⟨ans, hans⟩ : ∃ r, r = firstUnsortedF x0 z1 := ⟨_, rfl⟩
  have HANS := Lib.hid hans
  clear hans
  go_enter Try.func9, Try.ntmps9
  go_wp2_with fail
  refine (szStepS_any _ _ _ _ _ (by omega) (by omega) hA1.2.1).mono ?_
  rintro e w' ⟨rfl, rfl⟩
  rw [show szF 1048576 n1 = 1048576 - n1 from by rw [szF, if_neg (by omega)]]
  go_wp2_with fail
  refine (toStepS_any _ _ _ _ _ ((hI1.below hB0 (Nat.le_refl _)).up hB0.size)).mono ?_
  rintro e w1 ⟨bo0, no0, co0, rfl, ho0, hb1⟩
  have hB1 := hB0.trans (hb1.mono hB0.size)
  have hZ1 := hb1.size
  have hro0 := ho0.rowLt
  have hLo0 := ho0.le
  go_wp2_with fail
  refine (spec_FirstUnsorted_any _ _ _ _ _ _ ho0.flat).mono ?_
  rintro e w2 ⟨bo1, no1, co1, rfl, ho1, hb2⟩
  rw [← HANS.out]
  rw [← HANS.out] at ho1
  have hB2 := hB1.trans (hb2.mono hB1.size)
  have hZ2 := hb2.size
  replace ho0 := ho0.below hb2 (Nat.le_refl _)
  have hro1 := ho1.rowLt
  have hLo1 := ho1.le
  go_wp2_with fail
  refine (toStepS_any _ _ _ _ _ ((hI1.below hB2 (Nat.le_refl _)).up hB2.size)).mono ?_
  rintro e w3 ⟨bo2, no2, co2, rfl, ho2, hb3⟩
  have hB3 := hB2.trans (hb3.mono hB2.size)
  have hZ3 := hb3.size
  replace ho0 := ho0.below hb3 (Nat.le_refl _)
  replace ho1 := ho1.below hb3 (Nat.le_refl _)
  have hro2 := ho2.rowLt
  have hLo2 := ho2.le
  go_wp2_with fail
  refine (impl_FirstUnsorted_any _ _ _ _ _ _ ho2.flat).mono ?_
  rintro e w4 ⟨bo3, no3, co3, rfl, ho3, hb4⟩
  rw [← HANS.out]
  rw [← HANS.out] at ho3
  have hB4 := hB3.trans (hb4.mono hB3.size)
  have hZ4 := hb4.size
  replace ho0 := ho0.below hb4 (Nat.le_refl _)
  replace ho1 := ho1.below hb4 (Nat.le_refl _)
  replace ho2 := ho2.below hb4 (Nat.le_refl _)
  have hro3 := ho3.rowLt
  have hLo3 := ho3.le
  go_wp2_with fail
  refine (eqIntS_any _ _ _ _ _ _ _ _ _ _ _ ho3.ints ho1.ints (Nat.le_refl _) (Nat.le_refl _)).mono ?_
  rintro e w5 ⟨rfl, hb5⟩
  rw [eqB_self]
  have hB5 := hB4.trans (hb5.mono hB4.size)
  have hZ5 := hb5.size
  replace ho0 := ho0.below hb5 (Nat.le_refl _)
  replace ho1 := ho1.below hb5 (Nat.le_refl _)
  replace ho2 := ho2.below hb5 (Nat.le_refl _)
  replace ho3 := ho3.below hb5 (Nat.le_refl _)
  go_wp2_with fail
  refine (toStepS_any _ _ _ _ _ ((hI1.below hB5 (Nat.le_refl _)).up hB5.size)).mono ?_
  rintro e w6 ⟨bo4, no4, co4, rfl, ho4, hb6⟩
  have hB6 := hB5.trans (hb6.mono hB5.size)
  have hZ6 := hb6.size
  replace ho0 := ho0.below hb6 (Nat.le_refl _)
  replace ho1 := ho1.below hb6 (Nat.le_refl _)
  replace ho2 := ho2.below hb6 (Nat.le_refl _)
  replace ho3 := ho3.below hb6 (Nat.le_refl _)
  have hro4 := ho4.rowLt
  have hLo4 := ho4.le
  go_wp2_with fail
  refine (eqStepS_any _ _ _ _ _ _ _ _ _ _ _ ho2.flat ho4.flat (Nat.le_refl _) (Nat.le_refl _)).mono ?_
  rintro e w7 ⟨rfl, hb7⟩
  rw [eqB_self]
  have hB7 := hB6.trans (hb7.mono hB6.size)
  have hZ7 := hb7.size
  replace ho0 := ho0.below hb7 (Nat.le_refl _)
  replace ho1 := ho1.below hb7 (Nat.le_refl _)
  replace ho2 := ho2.below hb7 (Nat.le_refl _)
  replace ho3 := ho3.below hb7 (Nat.le_refl _)
  replace ho4 := ho4.below hb7 (Nat.le_refl _)
  go_wp2_with fail
  refine (markStepS_any _ _ _ _ _ _ _ ho2 (by omega) (by omega)).mono ?_
  rintro e w8 ⟨rfl, hm8, hg8⟩
  have hB8 : Below w0.heap.size w0 w8 := hB7.grown hg8 hB7.size (fun k hk => by have := hro2 k hk; omega)
  have hZ8 := hg8.size
  replace ho0 := ho0.other hg8 (fun k l h1 h2 => by have := hro0 k h1; have := hro2 l h2; omega)
  replace ho1 := ho1.other hg8 (fun k l h1 h2 => by have := hro1 k h1; have := hro2 l h2; omega)
  replace ho3 := ho3.other hg8 (fun k l h1 h2 => by have := hro3 k h1; have := hro2 l h2; omega)
  replace ho4 := ho4.other hg8 (fun k l h1 h2 => by have := hro4 k h1; have := hro2 l h2; omega)
  replace ho2 := hm8
  clear hm8 hg8
  go_wp2_with fail
  refine (eqIntS_any _ _ _ _ _ _ _ _ _ _ _ ho3.ints ho1.ints (Nat.le_refl _) (Nat.le_refl _)).mono ?_
  rintro e w9 ⟨rfl, hb9⟩
  rw [eqB_self]
  have hB9 := hB8.trans (hb9.mono hB8.size)
  have hZ9 := hb9.size
  replace ho0 := ho0.below hb9 (Nat.le_refl _)
  replace ho1 := ho1.below hb9 (Nat.le_refl _)
  replace ho2 := ho2.below hb9 (Nat.le_refl _)
  replace ho3 := ho3.below hb9 (Nat.le_refl _)
  replace ho4 := ho4.below hb9 (Nat.le_refl _)
  go_wp2_with fail
  refine (markIntS_any _ _ _ _ _ 1 _ ho3 (by omega) (by omega)).mono ?_
  rintro e w10 ⟨rfl, hm10, hg10⟩
  have hB10 : Below w0.heap.size w0 w10 := hB9.grown hg10 hB9.size (fun k hk => by have := hro3 k hk; omega)
  have hZ10 := hg10.size
  replace ho0 := ho0.other hg10 (fun k l h1 h2 => by have := hro0 k h1; have := hro3 l h2; omega)
  replace ho1 := ho1.other hg10 (fun k l h1 h2 => by have := hro1 k h1; have := hro3 l h2; omega)
  replace ho2 := ho2.other hg10 (fun k l h1 h2 => by have := hro2 k h1; have := hro3 l h2; omega)
  replace ho4 := ho4.other hg10 (fun k l h1 h2 => by have := hro4 k h1; have := hro3 l h2; omega)
  replace ho3 := hm10
  clear hm10 hg10
  go_wp2_with fail
  refine (heldIntS_any _ _ _ _ _ _ _ ho3.ints (by omega) (by omega) (marks_held _ _)).mono ?_
  rintro e w' ⟨rfl, rfl⟩
  go_wp2_with fail
  refine (toStepS_any _ _ _ _ _ ((hI1.below hB10 (Nat.le_refl _)).up hB10.size)).mono ?_
  rintro e w11 ⟨bo5, no5, co5, rfl, ho5, hb11⟩
  have hB11 := hB10.trans (hb11.mono hB10.size)
  have hZ11 := hb11.size
  replace ho0 := ho0.below hb11 (Nat.le_refl _)
  replace ho1 := ho1.below hb11 (Nat.le_refl _)
  replace ho2 := ho2.below hb11 (Nat.le_refl _)
  replace ho3 := ho3.below hb11 (Nat.le_refl _)
  replace ho4 := ho4.below hb11 (Nat.le_refl _)
  have hro5 := ho5.rowLt
  have hLo5 := ho5.le
  go_wp2_with fail
  refine (impl_FirstUnsorted_any _ _ _ _ _ _ ho5.flat).mono ?_
  rintro e w12 ⟨bo6, no6, co6, rfl, ho6, hb12⟩
  rw [← HANS.out]
  rw [← HANS.out] at ho6
  have hB12 := hB11.trans (hb12.mono hB11.size)
  have hZ12 := hb12.size
  replace ho0 := ho0.below hb12 (Nat.le_refl _)
  replace ho1 := ho1.below hb12 (Nat.le_refl _)
  replace ho2 := ho2.below hb12 (Nat.le_refl _)
  replace ho3 := ho3.below hb12 (Nat.le_refl _)
  replace ho4 := ho4.below hb12 (Nat.le_refl _)
  replace ho5 := ho5.below hb12 (Nat.le_refl _)
  have hro6 := ho6.rowLt
  have hLo6 := ho6.le
  go_wp2_with fail
  refine (eqIntS_any _ _ _ _ _ _ _ _ _ _ _ ho6.ints ho1.ints (Nat.le_refl _) (Nat.le_refl _)).mono ?_
  rintro e w13 ⟨rfl, hb13⟩
  rw [eqB_self]
  have hB13 := hB12.trans (hb13.mono hB12.size)
  have hZ13 := hb13.size
  replace ho0 := ho0.below hb13 (Nat.le_refl _)
  replace ho1 := ho1.below hb13 (Nat.le_refl _)
  replace ho2 := ho2.below hb13 (Nat.le_refl _)
  replace ho3 := ho3.below hb13 (Nat.le_refl _)
  replace ho4 := ho4.below hb13 (Nat.le_refl _)
  replace ho5 := ho5.below hb13 (Nat.le_refl _)
  replace ho6 := ho6.below hb13 (Nat.le_refl _)
  go_wp2_with fail
  refine (heldIntS_any _ _ _ _ _ _ _ ho3.ints (by omega) (by omega) (marks_held _ _)).mono ?_
  rintro e w' ⟨rfl, rfl⟩
  go_wp2_with fail
  go_ret
  exact ⟨rfl, hB13⟩
theorem walk_FnExactNeedlessSteps (x0 : Int) (a1 : Option Addr) (n1 c1 : Nat) (z1 : List Int) (w0 : World) (hA1 : FlatArg 2 w0 a1 n1 z1) : Calls Try.prog 10 #[.int .i64 x0, .slice a1 n1 c1] w0 (RetB true w0) := by
  have hs1 := hA1.2.1
  unfold maxLen at hs1
  by_cases hg1 : n1 ≤ 1048576
  rotate_left
  · go_enter Try.func10, Try.ntmps10
    go_wp2_with fail
    refine (szStepS_any _ _ _ _ _ (by omega) (by omega) hA1.2.1).mono ?_
    rintro e w' ⟨rfl, rfl⟩
    rw [show szF 1048576 n1 = -1 from by rw [szF, if_pos (by omega)]]
    go_wp2_with fail
    go_ret
    exact ⟨rfl, Below.refl _ _⟩
  have hI1 := hA1.flat hg1
  have hB0 : Below w0.heap.size w0 w0 := Below.refl _ _
  obtain ⟨ans, hans⟩ : ∃ r, r = needlessF x0 z1 := ⟨_, rfl⟩
  have HANS := Lib.hid hans
  clear hans
  go_enter Try.func10, Try.ntmps10
  go_wp2_with fail
  refine (szStepS_any _ _ _ _ _ (by omega) (by omega) hA1.2.1).mono ?_
  rintro e w' ⟨rfl, rfl⟩
  rw [show szF 1048576 n1 = 1048576 - n1 from by rw [szF, if_neg (by omega)]]
  go_wp2_with fail
  refine (toStepS_any _ _ _ _ _ ((hI1.below hB0 (Nat.le_refl _)).up hB0.size)).mono ?_
  rintro e w1 ⟨bo0, no0, co0, rfl, ho0, hb1⟩
  have hB1 := hB0.trans (hb1.mono hB0.size)
  have hZ1 := hb1.size
  have hro0 := ho0.rowLt
  have hLo0 := ho0.le
  go_wp2_with fail
  refine (spec_NeedlessSteps_any _ _ _ _ _ _ ho0.flat).mono ?_
  rintro e w2 ⟨bo1, no1, co1, rfl, ho1, hb2⟩
  rw [← HANS.out]
  rw [← HANS.out] at ho1
  have hB2 := hB1.trans (hb2.mono hB1.size)
  have hZ2 := hb2.size
  replace ho0 := ho0.below hb2 (Nat.le_refl _)
  have hro1 := ho1.rowLt
  have hLo1 := ho1.le
  go_wp2_with fail
  refine (toStepS_any _ _ _ _ _ ((hI1.below hB2 (Nat.le_refl _)).up hB2.size)).mono ?_
  rintro e w3 ⟨bo2, no2, co2, rfl, ho2, hb3⟩
  have hB3 := hB2.trans (hb3.mono hB2.size)
  have hZ3 := hb3.size
  replace ho0 := ho0.below hb3 (Nat.le_refl _)
  replace ho1 := ho1.below hb3 (Nat.le_refl _)
  have hro2 := ho2.rowLt
  have hLo2 := ho2.le
  go_wp2_with fail
  refine (impl_NeedlessSteps_any _ _ _ _ _ _ ho2.flat).mono ?_
  rintro e w4 ⟨bo3, no3, co3, rfl, ho3, hb4⟩
  rw [← HANS.out]
  rw [← HANS.out] at ho3
  have hB4 := hB3.trans (hb4.mono hB3.size)
  have hZ4 := hb4.size
  replace ho0 := ho0.below hb4 (Nat.le_refl _)
  replace ho1 := ho1.below hb4 (Nat.le_refl _)
  replace ho2 := ho2.below hb4 (Nat.le_refl _)
  have hro3 := ho3.rowLt
  have hLo3 := ho3.le
  go_wp2_with fail
  refine (eqIntS_any _ _ _ _ _ _ _ _ _ _ _ ho3.ints ho1.ints (Nat.le_refl _) (Nat.le_refl _)).mono ?_
  rintro e w5 ⟨rfl, hb5⟩
  rw [eqB_self]
  have hB5 := hB4.trans (hb5.mono hB4.size)
  have hZ5 := hb5.size
  replace ho0 := ho0.below hb5 (Nat.le_refl _)
  replace ho1 := ho1.below hb5 (Nat.le_refl _)
  replace ho2 := ho2.below hb5 (Nat.le_refl _)
  replace ho3 := ho3.below hb5 (Nat.le_refl _)
  go_wp2_with fail
  refine (toStepS_any _ _ _ _ _ ((hI1.below hB5 (Nat.le_refl _)).up hB5.size)).mono ?_
  rintro e w6 ⟨bo4, no4, co4, rfl, ho4, hb6⟩
  have hB6 := hB5.trans (hb6.mono hB5.size)
  have hZ6 := hb6.size
  replace ho0 := ho0.below hb6 (Nat.le_refl _)
  replace ho1 := ho1.below hb6 (Nat.le_refl _)
  replace ho2 := ho2.below hb6 (Nat.le_refl _)
  replace ho3 := ho3.below hb6 (Nat.le_refl _)
  have hro4 := ho4.rowLt
  have hLo4 := ho4.le
  go_wp2_with fail
  refine (eqStepS_any _ _ _ _ _ _ _ _ _ _ _ ho2.flat ho4.flat (Nat.le_refl _) (Nat.le_refl _)).mono ?_
  rintro e w7 ⟨rfl, hb7⟩
  rw [eqB_self]
  have hB7 := hB6.trans (hb7.mono hB6.size)
  have hZ7 := hb7.size
  replace ho0 := ho0.below hb7 (Nat.le_refl _)
  replace ho1 := ho1.below hb7 (Nat.le_refl _)
  replace ho2 := ho2.below hb7 (Nat.le_refl _)
  replace ho3 := ho3.below hb7 (Nat.le_refl _)
  replace ho4 := ho4.below hb7 (Nat.le_refl _)
  go_wp2_with fail
  refine (markStepS_any _ _ _ _ _ _ _ ho2 (by omega) (by omega)).mono ?_
  rintro e w8 ⟨rfl, hm8, hg8⟩
  have hB8 : Below w0.heap.size w0 w8 := hB7.grown hg8 hB7.size (fun k hk => by have := hro2 k hk; omega)
  have hZ8 := hg8.size
  replace ho0 := ho0.other hg8 (fun k l h1 h2 => by have := hro0 k h1; have := hro2 l h2; omega)
  replace ho1 := ho1.other hg8 (fun k l h1 h2 => by have := hro1 k h1; have := hro2 l h2; omega)
  replace ho3 := ho3.other hg8 (fun k l h1 h2 => by have := hro3 k h1; have := hro2 l h2; omega)
  replace ho4 := ho4.other hg8 (fun k l h1 h2 => by have := hro4 k h1; have := hro2 l h2; omega)
  replace ho2 := hm8
  clear hm8 hg8
  go_wp2_with fail
  refine (eqIntS_any _ _ _ _ _ _ _ _ _ _ _ ho3.ints ho1.ints (Nat.le_refl _) (Nat.le_refl _)).mono ?_
  rintro e w9 ⟨rfl, hb9⟩
  rw [eqB_self]
  have hB9 := hB8.trans (hb9.mono hB8.size)
  have hZ9 := hb9.size
  replace ho0 := ho0.below hb9 (Nat.le_refl _)
  replace ho1 := ho1.below hb9 (Nat.le_refl _)
  replace ho2 := ho2.below hb9 (Nat.le_refl _)
  replace ho3 := ho3.below hb9 (Nat.le_refl _)
  replace ho4 := ho4.below hb9 (Nat.le_refl _)
  go_wp2_with fail
  refine (markIntS_any _ _ _ _ _ 1 _ ho3 (by omega) (by omega)).mono ?_
  rintro e w10 ⟨rfl, hm10, hg10⟩
  have hB10 : Below w0.heap.size w0 w10 := hB9.grown hg10 hB9.size (fun k hk => by have := hro3 k hk; omega)
  have hZ10 := hg10.size
  replace ho0 := ho0.other hg10 (fun k l h1 h2 => by have := hro0 k h1; have := hro3 l h2; omega)
  replace ho1 := ho1.other hg10 (fun k l h1 h2 => by have := hro1 k h1; have := hro3 l h2; omega)
  replace ho2 := ho2.other hg10 (fun k l h1 h2 => by have := hro2 k h1; have := hro3 l h2; omega)
  replace ho4 := ho4.other hg10 (fun k l h1 h2 => by have := hro4 k h1; have := hro3 l h2; omega)
  replace ho3 := hm10
  clear hm10 hg10
  go_wp2_with fail
  refine (heldIntS_any _ _ _ _ _ _ _ ho3.ints (by omega) (by omega) (marks_held _ _)).mono ?_
  rintro e w' ⟨rfl, rfl⟩
  go_wp2_with fail
  refine (toStepS_any _ _ _ _ _ ((hI1.below hB10 (Nat.le_refl _)).up hB10.size)).mono ?_
  rintro e w11 ⟨bo5, no5, co5, rfl, ho5, hb11⟩
  have hB11 := hB10.trans (hb11.mono hB10.size)
  have hZ11 := hb11.size
  replace ho0 := ho0.below hb11 (Nat.le_refl _)
  replace ho1 := ho1.below hb11 (Nat.le_refl _)
  replace ho2 := ho2.below hb11 (Nat.le_refl _)
  replace ho3 := ho3.below hb11 (Nat.le_refl _)
  replace ho4 := ho4.below hb11 (Nat.le_refl _)
  have hro5 := ho5.rowLt
  have hLo5 := ho5.le
  go_wp2_with fail
  refine (impl_NeedlessSteps_any _ _ _ _ _ _ ho5.flat).mono ?_
  rintro e w12 ⟨bo6, no6, co6, rfl, ho6, hb12⟩
  rw [← HANS.out]
  rw [← HANS.out] at ho6
  have hB12 := hB11.trans (hb12.mono hB11.size)
  have hZ12 := hb12.size
  replace ho0 := ho0.below hb12 (Nat.le_refl _)
  replace ho1 := ho1.below hb12 (Nat.le_refl _)
  replace ho2 := ho2.below hb12 (Nat.le_refl _)
  replace ho3 := ho3.below hb12 (Nat.le_refl _)
  replace ho4 := ho4.below hb12 (Nat.le_refl _)
  replace ho5 := ho5.below hb12 (Nat.le_refl _)
  have hro6 := ho6.rowLt
  have hLo6 := ho6.le
  go_wp2_with fail
  refine (eqIntS_any _ _ _ _ _ _ _ _ _ _ _ ho6.ints ho1.ints (Nat.le_refl _) (Nat.le_refl _)).mono ?_
  rintro e w13 ⟨rfl, hb13⟩
  rw [eqB_self]
  have hB13 := hB12.trans (hb13.mono hB12.size)
  have hZ13 := hb13.size
  replace ho0 := ho0.below hb13 (Nat.le_refl _)
  replace ho1 := ho1.below hb13 (Nat.le_refl _)
  replace ho2 := ho2.below hb13 (Nat.le_refl _)
  replace ho3 := ho3.below hb13 (Nat.le_refl _)
  replace ho4 := ho4.below hb13 (Nat.le_refl _)
  replace ho5 := ho5.below hb13 (Nat.le_refl _)
  replace ho6 := ho6.below hb13 (Nat.le_refl _)
  go_wp2_with fail
  refine (heldIntS_any _ _ _ _ _ _ _ ho3.ints (by omega) (by omega) (marks_held _ _)).mono ?_
  rintro e w' ⟨rfl, rfl⟩
  go_wp2_with fail
  go_ret
  exact ⟨rfl, hB13⟩
theorem walk_FnExactPruneNetwork (x0 : Int) (a1 : Option Addr) (n1 c1 : Nat) (z1 : List Int) (w0 : World) (hA1 : FlatArg 2 w0 a1 n1 z1) : Calls Try.prog 11 #[.int .i64 x0, .slice a1 n1 c1] w0 (RetB true w0) := by
  have hs1 := hA1.2.1
  unfold maxLen at hs1
  by_cases hg1 : n1 ≤ 1048576
  rotate_left
  · go_enter Try.func11, Try.ntmps11
    go_wp2_with fail
    refine (szStepS_any _ _ _ _ _ (by omega) (by omega) hA1.2.1).mono ?_
    rintro e w' ⟨rfl, rfl⟩
    rw [show szF 1048576 n1 = -1 from by rw [szF, if_pos (by omega)]]
    go_wp2_with fail
    go_ret
    exact ⟨rfl, Below.refl _ _⟩
  have hI1 := hA1.flat hg1
  have hB0 : Below w0.heap.size w0 w0 := Below.refl _ _
  obtain ⟨ans, hans⟩ : ∃ r, r = pruneF x0 z1 := ⟨_, rfl⟩
  have HANS := Lib.hid hans
  clear hans
  go_enter Try.func11, Try.ntmps11
  go_wp2_with fail
  refine (szStepS_any _ _ _ _ _ (by omega) (by omega) hA1.2.1).mono ?_
  rintro e w' ⟨rfl, rfl⟩
  rw [show szF 1048576 n1 = 1048576 - n1 from by rw [szF, if_neg (by omega)]]
  go_wp2_with fail
  refine (toStepS_any _ _ _ _ _ ((hI1.below hB0 (Nat.le_refl _)).up hB0.size)).mono ?_
  rintro e w1 ⟨bo0, no0, co0, rfl, ho0, hb1⟩
  have hB1 := hB0.trans (hb1.mono hB0.size)
  have hZ1 := hb1.size
  have hro0 := ho0.rowLt
  have hLo0 := ho0.le
  go_wp2_with fail
  refine (spec_PruneNetwork_any _ _ _ _ _ _ ho0.flat).mono ?_
  rintro e w2 ⟨bo1, no1, co1, rfl, ho1, hb2⟩
  rw [← HANS.out]
  rw [← HANS.out] at ho1
  have hB2 := hB1.trans (hb2.mono hB1.size)
  have hZ2 := hb2.size
  replace ho0 := ho0.below hb2 (Nat.le_refl _)
  have hro1 := ho1.rowLt
  have hLo1 := ho1.le
  go_wp2_with fail
  refine (toStepS_any _ _ _ _ _ ((hI1.below hB2 (Nat.le_refl _)).up hB2.size)).mono ?_
  rintro e w3 ⟨bo2, no2, co2, rfl, ho2, hb3⟩
  have hB3 := hB2.trans (hb3.mono hB2.size)
  have hZ3 := hb3.size
  replace ho0 := ho0.below hb3 (Nat.le_refl _)
  replace ho1 := ho1.below hb3 (Nat.le_refl _)
  have hro2 := ho2.rowLt
  have hLo2 := ho2.le
  go_wp2_with fail
  refine (impl_PruneNetwork_any _ _ _ _ _ _ ho2.flat).mono ?_
  rintro e w4 ⟨bo3, no3, co3, rfl, ho3, hb4⟩
  rw [← HANS.out]
  rw [← HANS.out] at ho3
  have hB4 := hB3.trans (hb4.mono hB3.size)
  have hZ4 := hb4.size
  replace ho0 := ho0.below hb4 (Nat.le_refl _)
  replace ho1 := ho1.below hb4 (Nat.le_refl _)
  replace ho2 := ho2.below hb4 (Nat.le_refl _)
  have hro3 := ho3.rowLt
  have hLo3 := ho3.le
  go_wp2_with fail
  refine (eqStepS_any _ _ _ _ _ _ _ _ _ _ _ ho3.flat ho1.flat (Nat.le_refl _) (Nat.le_refl _)).mono ?_
  rintro e w5 ⟨rfl, hb5⟩
  rw [eqB_self]
  have hB5 := hB4.trans (hb5.mono hB4.size)
  have hZ5 := hb5.size
  replace ho0 := ho0.below hb5 (Nat.le_refl _)
  replace ho1 := ho1.below hb5 (Nat.le_refl _)
  replace ho2 := ho2.below hb5 (Nat.le_refl _)
  replace ho3 := ho3.below hb5 (Nat.le_refl _)
  go_wp2_with fail
  refine (toStepS_any _ _ _ _ _ ((hI1.below hB5 (Nat.le_refl _)).up hB5.size)).mono ?_
  rintro e w6 ⟨bo4, no4, co4, rfl, ho4, hb6⟩
  have hB6 := hB5.trans (hb6.mono hB5.size)
  have hZ6 := hb6.size
  replace ho0 := ho0.below hb6 (Nat.le_refl _)
  replace ho1 := ho1.below hb6 (Nat.le_refl _)
  replace ho2 := ho2.below hb6 (Nat.le_refl _)
  replace ho3 := ho3.below hb6 (Nat.le_refl _)
  have hro4 := ho4.rowLt
  have hLo4 := ho4.le
  go_wp2_with fail
  refine (eqStepS_any _ _ _ _ _ _ _ _ _ _ _ ho2.flat ho4.flat (Nat.le_refl _) (Nat.le_refl _)).mono ?_
  rintro e w7 ⟨rfl, hb7⟩
  rw [eqB_self]
  have hB7 := hB6.trans (hb7.mono hB6.size)
  have hZ7 := hb7.size
  replace ho0 := ho0.below hb7 (Nat.le_refl _)
  replace ho1 := ho1.below hb7 (Nat.le_refl _)
  replace ho2 := ho2.below hb7 (Nat.le_refl _)
  replace ho3 := ho3.below hb7 (Nat.le_refl _)
  replace ho4 := ho4.below hb7 (Nat.le_refl _)
  go_wp2_with fail
  refine (markStepS_any _ _ _ _ _ _ _ ho2 (by omega) (by omega)).mono ?_
  rintro e w8 ⟨rfl, hm8, hg8⟩
  have hB8 : Below w0.heap.size w0 w8 := hB7.grown hg8 hB7.size (fun k hk => by have := hro2 k hk; omega)
  have hZ8 := hg8.size
  replace ho0 := ho0.other hg8 (fun k l h1 h2 => by have := hro0 k h1; have := hro2 l h2; omega)
  replace ho1 := ho1.other hg8 (fun k l h1 h2 => by have := hro1 k h1; have := hro2 l h2; omega)
  replace ho3 := ho3.other hg8 (fun k l h1 h2 => by have := hro3 k h1; have := hro2 l h2; omega)
  replace ho4 := ho4.other hg8 (fun k l h1 h2 => by have := hro4 k h1; have := hro2 l h2; omega)
  replace ho2 := hm8
  clear hm8 hg8
  go_wp2_with fail
  refine (eqStepS_any _ _ _ _ _ _ _ _ _ _ _ ho3.flat ho1.flat (Nat.le_refl _) (Nat.le_refl _)).mono ?_
  rintro e w9 ⟨rfl, hb9⟩
  rw [eqB_self]
  have hB9 := hB8.trans (hb9.mono hB8.size)
  have hZ9 := hb9.size
  replace ho0 := ho0.below hb9 (Nat.le_refl _)
  replace ho1 := ho1.below hb9 (Nat.le_refl _)
  replace ho2 := ho2.below hb9 (Nat.le_refl _)
  replace ho3 := ho3.below hb9 (Nat.le_refl _)
  replace ho4 := ho4.below hb9 (Nat.le_refl _)
  go_wp2_with fail
  refine (markStepS_any _ _ _ _ _ 1 _ ho3 (by omega) (by omega)).mono ?_
  rintro e w10 ⟨rfl, hm10, hg10⟩
  have hB10 : Below w0.heap.size w0 w10 := hB9.grown hg10 hB9.size (fun k hk => by have := hro3 k hk; omega)
  have hZ10 := hg10.size
  replace ho0 := ho0.other hg10 (fun k l h1 h2 => by have := hro0 k h1; have := hro3 l h2; omega)
  replace ho1 := ho1.other hg10 (fun k l h1 h2 => by have := hro1 k h1; have := hro3 l h2; omega)
  replace ho2 := ho2.other hg10 (fun k l h1 h2 => by have := hro2 k h1; have := hro3 l h2; omega)
  replace ho4 := ho4.other hg10 (fun k l h1 h2 => by have := hro4 k h1; have := hro3 l h2; omega)
  replace ho3 := hm10
  clear hm10 hg10
  go_wp2_with fail
  refine (heldStepS_any _ _ _ _ _ _ _ ho3.flat (by omega) (by omega) (marks_held _ _)).mono ?_
  rintro e w' ⟨rfl, rfl⟩
  go_wp2_with fail
  refine (toStepS_any _ _ _ _ _ ((hI1.below hB10 (Nat.le_refl _)).up hB10.size)).mono ?_
  rintro e w11 ⟨bo5, no5, co5, rfl, ho5, hb11⟩
  have hB11 := hB10.trans (hb11.mono hB10.size)
  have hZ11 := hb11.size
  replace ho0 := ho0.below hb11 (Nat.le_refl _)
  replace ho1 := ho1.below hb11 (Nat.le_refl _)
  replace ho2 := ho2.below hb11 (Nat.le_refl _)
  replace ho3 := ho3.below hb11 (Nat.le_refl _)
  replace ho4 := ho4.below hb11 (Nat.le_refl _)
  have hro5 := ho5.rowLt
  have hLo5 := ho5.le
  go_wp2_with fail
  refine (impl_PruneNetwork_any _ _ _ _ _ _ ho5.flat).mono ?_
  rintro e w12 ⟨bo6, no6, co6, rfl, ho6, hb12⟩
  rw [← HANS.out]
  rw [← HANS.out] at ho6
  have hB12 := hB11.trans (hb12.mono hB11.size)
  have hZ12 := hb12.size
  replace ho0 := ho0.below hb12 (Nat.le_refl _)
  replace ho1 := ho1.below hb12 (Nat.le_refl _)
  replace ho2 := ho2.below hb12 (Nat.le_refl _)
  replace ho3 := ho3.below hb12 (Nat.le_refl _)
  replace ho4 := ho4.below hb12 (Nat.le_refl _)
  replace ho5 := ho5.below hb12 (Nat.le_refl _)
  have hro6 := ho6.rowLt
  have hLo6 := ho6.le
  go_wp2_with fail
  refine (eqStepS_any _ _ _ _ _ _ _ _ _ _ _ ho6.flat ho1.flat (Nat.le_refl _) (Nat.le_refl _)).mono ?_
  rintro e w13 ⟨rfl, hb13⟩
  rw [eqB_self]
  have hB13 := hB12.trans (hb13.mono hB12.size)
  have hZ13 := hb13.size
  replace ho0 := ho0.below hb13 (Nat.le_refl _)
  replace ho1 := ho1.below hb13 (Nat.le_refl _)
  replace ho2 := ho2.below hb13 (Nat.le_refl _)
  replace ho3 := ho3.below hb13 (Nat.le_refl _)
  replace ho4 := ho4.below hb13 (Nat.le_refl _)
  replace ho5 := ho5.below hb13 (Nat.le_refl _)
  replace ho6 := ho6.below hb13 (Nat.le_refl _)
  go_wp2_with fail
  refine (heldStepS_any _ _ _ _ _ _ _ ho3.flat (by omega) (by omega) (marks_held _ _)).mono ?_
  rintro e w' ⟨rfl, rfl⟩
  go_wp2_with fail
  go_ret
  exact ⟨rfl, hB13⟩
end Go.Proofs.Ytoeobhjpiimomaa
