/-
  The laws on BitsText and ParseBits: their walks (printed by gen_law.py).
-/
import Derived.Test.YthbcaphnbdlmmaaText
namespace Go.Proofs.Ythbcaphnbdlmmaa
open Go.RowKit

theorem walk_FnExactBitsText (a0 : Option Addr) (n0 c0 : Nat) (z0 : List Int) (w0 : World) (hA0 : IntsArg w0 a0 n0 z0) : Calls Try.prog 3 #[.slice a0 n0 c0] w0 (RetB true w0) := by
  have hs0 := hA0.2.1
  unfold maxLen at hs0
  by_cases hg0 : n0 ≤ 1048576
  rotate_left
  · have hg0' : ¬ (n0 : Int) ≤ 1048576 := by omega
    go_enter Try.func3, Try.ntmps3
    go_wp2_with fail
    go_ret
    exact ⟨rfl, Below.refl _ _⟩
  have hI0 := hA0.ints hg0
  have hB0 : Below w0.heap.size w0 w0 := Below.refl _ _
  obtain ⟨ans, hans⟩ : ∃ r, r = bitsTextF z0 := ⟨_, rfl⟩
  have HANS := Lib.hid hans
  clear hans
  go_enter Try.func3, Try.ntmps3
  go_wp2_with fail
  refine (toIntS_any _ _ _ _ _ ((hI0.below hB0 (Nat.le_refl _)).up hB0.size)).mono ?_
  rintro e w1 ⟨bo0, no0, co0, rfl, ho0, hb1⟩
  have hB1 := hB0.trans (hb1.mono hB0.size)
  have hZ1 := hb1.size
  have hro0 := ho0.rowLt
  have hLo0 := ho0.le
  go_wp2_with fail
  refine (spec_BitsText_any _ _ _ _ _ ho0.ints).mono ?_
  rintro e w2 ⟨rfl, hb2⟩
  rw [← HANS.out]
  have hB2 := hB1.trans (hb2.mono hB1.size)
  have hZ2 := hb2.size
  replace ho0 := ho0.below hb2 (Nat.le_refl _)
  go_wp2_with fail
  refine (toIntS_any _ _ _ _ _ ((hI0.below hB2 (Nat.le_refl _)).up hB2.size)).mono ?_
  rintro e w3 ⟨bo2, no2, co2, rfl, ho2, hb3⟩
  have hB3 := hB2.trans (hb3.mono hB2.size)
  have hZ3 := hb3.size
  replace ho0 := ho0.below hb3 (Nat.le_refl _)
  have hro2 := ho2.rowLt
  have hLo2 := ho2.le
  go_wp2_with fail
  refine (impl_BitsText_any _ _ _ _ _ ho2.ints).mono ?_
  rintro e w4 ⟨rfl, hb4⟩
  rw [← HANS.out]
  have hB4 := hB3.trans (hb4.mono hB3.size)
  have hZ4 := hb4.size
  replace ho0 := ho0.below hb4 (Nat.le_refl _)
  replace ho2 := ho2.below hb4 (Nat.le_refl _)
  go_wp2_with fail
  refine (toIntS_any _ _ _ _ _ ((hI0.below hB4 (Nat.le_refl _)).up hB4.size)).mono ?_
  rintro e w5 ⟨bo4, no4, co4, rfl, ho4, hb5⟩
  have hB5 := hB4.trans (hb5.mono hB4.size)
  have hZ5 := hb5.size
  replace ho0 := ho0.below hb5 (Nat.le_refl _)
  replace ho2 := ho2.below hb5 (Nat.le_refl _)
  have hro4 := ho4.rowLt
  have hLo4 := ho4.le
  go_wp2_with fail
  refine (eqIntS_any _ _ _ _ _ _ _ _ _ _ _ ho2.ints ho4.ints (Nat.le_refl _) (Nat.le_refl _)).mono ?_
  rintro e w6 ⟨rfl, hb6⟩
  rw [eqB_self]
  have hB6 := hB5.trans (hb6.mono hB5.size)
  have hZ6 := hb6.size
  replace ho0 := ho0.below hb6 (Nat.le_refl _)
  replace ho2 := ho2.below hb6 (Nat.le_refl _)
  replace ho4 := ho4.below hb6 (Nat.le_refl _)
  go_wp2_with fail
  go_ret
  exact ⟨rfl, hB6⟩
theorem walk_FnExactParseBits (x0 : ByteArray) (w0 : World) (hs0 : x0.size ≤ maxLen) : Calls Try.prog 4 #[.string x0] w0 (RetB true w0) := by
  unfold maxLen at hs0
  by_cases hg0 : x0.size ≤ 1048576
  rotate_left
  · have hg0' : ¬ (x0.size : Int) ≤ 1048576 := by omega
    go_enter Try.func4, Try.ntmps4
    go_wp2_with fail
    go_ret
    exact ⟨rfl, Below.refl _ _⟩
  have hB0 : Below w0.heap.size w0 w0 := Below.refl _ _
  obtain ⟨ans, hans⟩ : ∃ r, r = parseBitsF x0 := ⟨_, rfl⟩
  have HANS := Lib.hid hans
  clear hans
  go_enter Try.func4, Try.ntmps4
  go_wp2_with fail
  refine (spec_ParseBits_any _ _ hg0).mono ?_
  rintro e w1 ⟨bo0, no0, co0, rfl, ho0, hb1⟩
  rw [← HANS.out]
  rw [← HANS.out] at ho0
  have hB1 := hB0.trans (hb1.mono hB0.size)
  have hZ1 := hb1.size
  have hro0 := ho0.rowLt
  have hLo0 := ho0.le
  go_wp2_with fail
  refine (impl_ParseBits_any _ _ hg0).mono ?_
  rintro e w2 ⟨bo1, no1, co1, rfl, ho1, hb2⟩
  rw [← HANS.out]
  rw [← HANS.out] at ho1
  have hB2 := hB1.trans (hb2.mono hB1.size)
  have hZ2 := hb2.size
  replace ho0 := ho0.below hb2 (Nat.le_refl _)
  have hro1 := ho1.rowLt
  have hLo1 := ho1.le
  go_wp2_with fail
  refine (eqIntS_any _ _ _ _ _ _ _ _ _ _ _ ho1.ints ho0.ints (Nat.le_refl _) (Nat.le_refl _)).mono ?_
  rintro e w3 ⟨rfl, hb3⟩
  rw [eqB_self]
  have hB3 := hB2.trans (hb3.mono hB2.size)
  have hZ3 := hb3.size
  replace ho0 := ho0.below hb3 (Nat.le_refl _)
  replace ho1 := ho1.below hb3 (Nat.le_refl _)
  go_wp2_with fail
  refine (markIntS_any _ _ _ _ _ 1 _ ho1 (by omega) (by omega)).mono ?_
  rintro e w4 ⟨rfl, hm4, hg4⟩
  have hB4 : Below w0.heap.size w0 w4 := hB3.grown hg4 hB3.size (fun k hk => by have := hro1 k hk; omega)
  have hZ4 := hg4.size
  replace ho0 := ho0.other hg4 (fun k l h1 h2 => by have := hro0 k h1; have := hro1 l h2; omega)
  replace ho1 := hm4
  clear hm4 hg4
  go_wp2_with fail
  refine (heldIntS_any _ _ _ _ _ _ _ ho1.ints (by omega) (by omega) (marks_held _ _)).mono ?_
  rintro e w' ⟨rfl, rfl⟩
  go_wp2_with fail
  refine (impl_ParseBits_any _ _ hg0).mono ?_
  rintro e w5 ⟨bo2, no2, co2, rfl, ho2, hb5⟩
  rw [← HANS.out]
  rw [← HANS.out] at ho2
  have hB5 := hB4.trans (hb5.mono hB4.size)
  have hZ5 := hb5.size
  replace ho0 := ho0.below hb5 (Nat.le_refl _)
  replace ho1 := ho1.below hb5 (Nat.le_refl _)
  have hro2 := ho2.rowLt
  have hLo2 := ho2.le
  go_wp2_with fail
  refine (eqIntS_any _ _ _ _ _ _ _ _ _ _ _ ho2.ints ho0.ints (Nat.le_refl _) (Nat.le_refl _)).mono ?_
  rintro e w6 ⟨rfl, hb6⟩
  rw [eqB_self]
  have hB6 := hB5.trans (hb6.mono hB5.size)
  have hZ6 := hb6.size
  replace ho0 := ho0.below hb6 (Nat.le_refl _)
  replace ho1 := ho1.below hb6 (Nat.le_refl _)
  replace ho2 := ho2.below hb6 (Nat.le_refl _)
  go_wp2_with fail
  refine (heldIntS_any _ _ _ _ _ _ _ ho1.ints (by omega) (by omega) (marks_held _ _)).mono ?_
  rintro e w' ⟨rfl, rfl⟩
  go_wp2_with fail
  go_ret
  exact ⟨rfl, hB6⟩
end Go.Proofs.Ythbcaphnbdlmmaa
