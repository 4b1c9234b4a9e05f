/-
  The laws on WireValues and EvalCircuit: their walks (printed by gen_lawc.py).
-/
import Derived.Test.YtbdccgodamkljaaCirc8
namespace Go.Proofs.Ytbdccgodamkljaa
open Go.RowKit
set_option linter.unusedVariables false
set_option linter.unusedSimpArgs false

set_option maxHeartbeats 4000000 in
theorem walk_FnExactWireValues (i0_0 i0_1 : Int) (ga0 oa0 : Option Addr) (gn0 gc0 on0 oc0 : Nat) (gs0 os0 : List Int) (a1 : Option Addr) (n1 c1 : Nat) (z1 : List Int) (a2 : Option Addr) (n2 c2 : Nat) (z2 : List Int) (w0 : World) (hG0 : FlatArg 3 w0 ga0 gn0 gs0) (hO0 : IntsArg w0 oa0 on0 os0) (hA1 : IntsArg w0 a1 n1 z1) (hA2 : IntsArg w0 a2 n2 z2) : Calls Try.prog 11 #[circV i0_0 i0_1 ga0 gn0 gc0 oa0 on0 oc0, .slice a1 n1 c1, .slice a2 n2 c2] w0 (RetB true w0) := by
  have hs1 := hA1.2.1
  unfold maxLen at hs1
  have hs2 := hA2.2.1
  unfold maxLen at hs2
  have hs0 := hG0.2.1
  have ht0 := hO0.2.1
  unfold maxLen at hs0 ht0
  by_cases hg1 : n1 ≤ 1048576
  rotate_left
  · have hg1' : ¬ (n1 : Int) ≤ 1048576 := by omega
    unfold circV
    go_enter Try.func11, Try.ntmps11
    go_wp2_with fail
    go_ret
    exact ⟨rfl, (Below.refl _ _).alloc (Nat.le_refl _) _⟩
  by_cases hg2 : n2 ≤ 1048576
  rotate_left
  · have hg2' : ¬ (n2 : Int) ≤ 1048576 := by omega
    unfold circV
    go_enter Try.func11, Try.ntmps11
    go_wp2_with fail
    go_ret
    exact ⟨rfl, (Below.refl _ _).alloc (Nat.le_refl _) _⟩
  by_cases hg0 : gn0 + on0 ≤ 1048576
  rotate_left
  · unfold circV
    go_enter Try.func11, Try.ntmps11
    go_wp2_with fail
    refine (szCircuit_any _ _ _ _ _ _ _ _ _ 1048576 (by omega) (by omega) hG0.2.1 hO0.2.1).mono ?_
    rintro e w1 ⟨rfl, hb1⟩
    rw [show szC 1048576 gn0 on0 = -1 from by unfold szC; split <;> (try split) <;> omega]
    go_wp2_with fail
    go_ret
    exact ⟨rfl, ((Below.refl _ _).alloc (Nat.le_refl _) _).trans (hb1.mono (by simp))⟩
  have hI1 := hA1.ints hg1
  have hI2 := hA2.ints hg2
  have hFG0 := hG0.flat (by omega)
  have hFO0 := hO0.ints (by omega)
  have hB0 : Below w0.heap.size w0 w0 := Below.refl _ _
  obtain ⟨ans, hans⟩ : ∃ r, r = wireValuesF i0_0 i0_1 gs0 os0 z1 z2 := ⟨_, rfl⟩
  have HANS := Lib.hid hans
  clear hans
  unfold circV
  go_enter Try.func11, Try.ntmps11
  go_wp2_with fail
  have hb1 : Below w0.heap.size w0 (w0.alloc (.cells #[.int .i64 i0_0, .int .i64 i0_1, .slice ga0 gn0 gc0, .slice oa0 on0 oc0] 25)) := (Below.refl _ _).alloc (Nat.le_refl _) _
  have hXc0 := boxC_new w0 (i0_0) (i0_1) ga0 gn0 gc0 oa0 on0 oc0 25
  have hWc0 : w0.heap.size < (w0.alloc (.cells #[.int .i64 i0_0, .int .i64 i0_1, .slice ga0 gn0 gc0, .slice oa0 on0 oc0] 25)).heap.size := by simp
  generalize w0.alloc (.cells #[.int .i64 i0_0, .int .i64 i0_1, .slice ga0 gn0 gc0, .slice oa0 on0 oc0] 25) = w1 at *
  have hB1 := hB0.trans (hb1.mono hB0.size)
  have hZ1 := hb1.size
  obtain ⟨y0c0, y1c0, y2c0, y3c0⟩ := hXc0
  have hXc0 : BoxC _ _ _ _ _ _ _ _ _ _ := ⟨y0c0, y1c0, y2c0, y3c0⟩
  clear y0c0 y1c0 y2c0 y3c0
  refine (szCircuit_any _ _ _ _ _ _ _ _ _ 1048576 (by omega) (by omega) hG0.2.1 hO0.2.1).mono ?_
  rintro e w2 ⟨rfl, hb2⟩
  rw [show szC 1048576 gn0 on0 = 1048576 - gn0 - on0 from by unfold szC; split <;> (try split) <;> omega]
  have hB2 := hB1.trans (hb2.mono hB1.size)
  have hZ2 := hb2.size
  replace hXc0 := hXc0.below hb2 (by omega)
  obtain ⟨y0c0, y1c0, y2c0, y3c0⟩ := hXc0
  go_wp2_with fail
  have hXc0 : BoxC _ _ _ _ _ _ _ _ _ _ := ⟨y0c0, y1c0, y2c0, y3c0⟩
  clear y0c0 y1c0 y2c0 y3c0
  refine (toCircuit_any _ _ _ _ _ _ _ _ _ _ _ ((hFG0.below hB2 (Nat.le_refl _)).up hB2.size) ((hFO0.below hB2 (Nat.le_refl _)).up hB2.size)).mono ?_
  rintro e w3 ⟨gao0, gno0, gco0, oao0, ono0, oco0, rfl, ho0, hb3⟩
  unfold circV
  have hB3 := hB2.trans (hb3.mono hB2.size)
  have hZ3 := hb3.size
  replace hXc0 := hXc0.below hb3 (by omega)
  have hro0 := ho0.1.rowLt
  have hpo0 := ho0.2.1.rowLt
  have hLo0 := ho0.1.le
  have hMo0 := ho0.2.1.le
  obtain ⟨y0c0, y1c0, y2c0, y3c0⟩ := hXc0
  go_wp2_with fail
  have hXc0 : BoxC _ _ _ _ _ _ _ _ _ _ := ⟨y0c0, y1c0, y2c0, y3c0⟩
  clear y0c0 y1c0 y2c0 y3c0
  refine (toIntS_any _ _ _ _ _ ((hI1.below hB3 (Nat.le_refl _)).up hB3.size)).mono ?_
  rintro e w4 ⟨bo1, no1, co1, rfl, ho1, hb4⟩
  have hB4 := hB3.trans (hb4.mono hB3.size)
  have hZ4 := hb4.size
  replace ho0 := ho0.below hb4 (Nat.le_refl _)
  replace hXc0 := hXc0.below hb4 (by omega)
  have hro1 := ho1.rowLt
  have hLo1 := ho1.le
  obtain ⟨y0c0, y1c0, y2c0, y3c0⟩ := hXc0
  go_wp2_with fail
  have hXc0 : BoxC _ _ _ _ _ _ _ _ _ _ := ⟨y0c0, y1c0, y2c0, y3c0⟩
  clear y0c0 y1c0 y2c0 y3c0
  refine (toIntS_any _ _ _ _ _ ((hI2.below hB4 (Nat.le_refl _)).up hB4.size)).mono ?_
  rintro e w5 ⟨bo2, no2, co2, rfl, ho2, hb5⟩
  have hB5 := hB4.trans (hb5.mono hB4.size)
  have hZ5 := hb5.size
  replace ho0 := ho0.below hb5 (Nat.le_refl _)
  replace ho1 := ho1.below hb5 (Nat.le_refl _)
  replace hXc0 := hXc0.below hb5 (by omega)
  have hro2 := ho2.rowLt
  have hLo2 := ho2.le
  obtain ⟨y0c0, y1c0, y2c0, y3c0⟩ := hXc0
  go_wp2_with fail
  have hXc0 : BoxC _ _ _ _ _ _ _ _ _ _ := ⟨y0c0, y1c0, y2c0, y3c0⟩
  clear y0c0 y1c0 y2c0 y3c0
  refine (spec_WireValues_any _ _ _ _ _ _ _ _ _ _ _ _ _ _ _ _ _ _ _ ho0.1.flat ho0.2.1.ints ho1.ints ho2.ints).mono ?_
  rintro e w6 ⟨bo3, no3, co3, rfl, ho3, hb6⟩
  rw [← HANS.out]
  rw [← HANS.out] at ho3
  have hB6 := hB5.trans (hb6.mono hB5.size)
  have hZ6 := hb6.size
  replace ho0 := ho0.below hb6 (Nat.le_refl _)
  replace ho1 := ho1.below hb6 (Nat.le_refl _)
  replace ho2 := ho2.below hb6 (Nat.le_refl _)
  replace hXc0 := hXc0.below hb6 (by omega)
  have hro3 := ho3.rowLt
  have hLo3 := ho3.le
  obtain ⟨y0c0, y1c0, y2c0, y3c0⟩ := hXc0
  go_wp2_with fail
  have hXc0 : BoxC _ _ _ _ _ _ _ _ _ _ := ⟨y0c0, y1c0, y2c0, y3c0⟩
  clear y0c0 y1c0 y2c0 y3c0
  refine (toCircuit_any _ _ _ _ _ _ _ _ _ _ _ ((hFG0.below hB6 (Nat.le_refl _)).up hB6.size) ((hFO0.below hB6 (Nat.le_refl _)).up hB6.size)).mono ?_
  rintro e w7 ⟨gao4, gno4, gco4, oao4, ono4, oco4, rfl, ho4, hb7⟩
  unfold circV
  have hB7 := hB6.trans (hb7.mono hB6.size)
  have hZ7 := hb7.size
  replace ho0 := ho0.below hb7 (Nat.le_refl _)
  replace ho1 := ho1.below hb7 (Nat.le_refl _)
  replace ho2 := ho2.below hb7 (Nat.le_refl _)
  replace ho3 := ho3.below hb7 (Nat.le_refl _)
  replace hXc0 := hXc0.below hb7 (by omega)
  have hro4 := ho4.1.rowLt
  have hpo4 := ho4.2.1.rowLt
  have hLo4 := ho4.1.le
  have hMo4 := ho4.2.1.le
  go_wp2_with fail
  have hb8 : Below w7.heap.size w7 (w7.alloc (.cells #[.int .i64 i0_0, .int .i64 i0_1, .slice gao4 gno4 gco4, .slice oao4 ono4 oco4] 30)) := (Below.refl _ _).alloc (Nat.le_refl _) _
  have hXo4 := boxC_new w7 (i0_0) (i0_1) gao4 gno4 gco4 oao4 ono4 oco4 30
  have hWo4 : w7.heap.size < (w7.alloc (.cells #[.int .i64 i0_0, .int .i64 i0_1, .slice gao4 gno4 gco4, .slice oao4 ono4 oco4] 30)).heap.size := by simp
  generalize w7.alloc (.cells #[.int .i64 i0_0, .int .i64 i0_1, .slice gao4 gno4 gco4, .slice oao4 ono4 oco4] 30) = w8 at *
  have hB8 := hB7.trans (hb8.mono hB7.size)
  have hZ8 := hb8.size
  replace ho0 := ho0.below hb8 (Nat.le_refl _)
  replace ho1 := ho1.below hb8 (Nat.le_refl _)
  replace ho2 := ho2.below hb8 (Nat.le_refl _)
  replace ho3 := ho3.below hb8 (Nat.le_refl _)
  replace ho4 := ho4.below hb8 (Nat.le_refl _)
  replace hXc0 := hXc0.below hb8 (by omega)
  obtain ⟨y0c0, y1c0, y2c0, y3c0⟩ := hXc0
  obtain ⟨y0o4, y1o4, y2o4, y3o4⟩ := hXo4
  have hXc0 : BoxC _ _ _ _ _ _ _ _ _ _ := ⟨y0c0, y1c0, y2c0, y3c0⟩
  clear y0c0 y1c0 y2c0 y3c0
  have hXo4 : BoxC _ _ _ _ _ _ _ _ _ _ := ⟨y0o4, y1o4, y2o4, y3o4⟩
  clear y0o4 y1o4 y2o4 y3o4
  refine (toIntS_any _ _ _ _ _ ((hI1.below hB8 (Nat.le_refl _)).up hB8.size)).mono ?_
  rintro e w9 ⟨bo5, no5, co5, rfl, ho5, hb9⟩
  have hB9 := hB8.trans (hb9.mono hB8.size)
  have hZ9 := hb9.size
  replace ho0 := ho0.below hb9 (Nat.le_refl _)
  replace ho1 := ho1.below hb9 (Nat.le_refl _)
  replace ho2 := ho2.below hb9 (Nat.le_refl _)
  replace ho3 := ho3.below hb9 (Nat.le_refl _)
  replace ho4 := ho4.below hb9 (Nat.le_refl _)
  replace hXc0 := hXc0.below hb9 (by omega)
  replace hXo4 := hXo4.below hb9 (by omega)
  have hro5 := ho5.rowLt
  have hLo5 := ho5.le
  obtain ⟨y0c0, y1c0, y2c0, y3c0⟩ := hXc0
  obtain ⟨y0o4, y1o4, y2o4, y3o4⟩ := hXo4
  go_wp2_with fail
  have hXc0 : BoxC _ _ _ _ _ _ _ _ _ _ := ⟨y0c0, y1c0, y2c0, y3c0⟩
  clear y0c0 y1c0 y2c0 y3c0
  have hXo4 : BoxC _ _ _ _ _ _ _ _ _ _ := ⟨y0o4, y1o4, y2o4, y3o4⟩
  clear y0o4 y1o4 y2o4 y3o4
  refine (toIntS_any _ _ _ _ _ ((hI2.below hB9 (Nat.le_refl _)).up hB9.size)).mono ?_
  rintro e w10 ⟨bo6, no6, co6, rfl, ho6, hb10⟩
  have hB10 := hB9.trans (hb10.mono hB9.size)
  have hZ10 := hb10.size
  replace ho0 := ho0.below hb10 (Nat.le_refl _)
  replace ho1 := ho1.below hb10 (Nat.le_refl _)
  replace ho2 := ho2.below hb10 (Nat.le_refl _)
  replace ho3 := ho3.below hb10 (Nat.le_refl _)
  replace ho4 := ho4.below hb10 (Nat.le_refl _)
  replace ho5 := ho5.below hb10 (Nat.le_refl _)
  replace hXc0 := hXc0.below hb10 (by omega)
  replace hXo4 := hXo4.below hb10 (by omega)
  have hro6 := ho6.rowLt
  have hLo6 := ho6.le
  obtain ⟨y0c0, y1c0, y2c0, y3c0⟩ := hXc0
  obtain ⟨y0o4, y1o4, y2o4, y3o4⟩ := hXo4
  go_wp2_with fail
  have hXc0 : BoxC _ _ _ _ _ _ _ _ _ _ := ⟨y0c0, y1c0, y2c0, y3c0⟩
  clear y0c0 y1c0 y2c0 y3c0
  have hXo4 : BoxC _ _ _ _ _ _ _ _ _ _ := ⟨y0o4, y1o4, y2o4, y3o4⟩
  clear y0o4 y1o4 y2o4 y3o4
  refine (impl_WireValues_any _ _ _ _ _ _ _ _ _ _ _ _ _ _ _ _ _ _ _ ho4.1.flat ho4.2.1.ints ho5.ints ho6.ints).mono ?_
  rintro e w11 ⟨bo7, no7, co7, rfl, ho7, hb11⟩
  rw [← HANS.out]
  rw [← HANS.out] at ho7
  have hB11 := hB10.trans (hb11.mono hB10.size)
  have hZ11 := hb11.size
  replace ho0 := ho0.below hb11 (Nat.le_refl _)
  replace ho1 := ho1.below hb11 (Nat.le_refl _)
  replace ho2 := ho2.below hb11 (Nat.le_refl _)
  replace ho3 := ho3.below hb11 (Nat.le_refl _)
  replace ho4 := ho4.below hb11 (Nat.le_refl _)
  replace ho5 := ho5.below hb11 (Nat.le_refl _)
  replace ho6 := ho6.below hb11 (Nat.le_refl _)
  replace hXc0 := hXc0.below hb11 (by omega)
  replace hXo4 := hXo4.below hb11 (by omega)
  have hro7 := ho7.rowLt
  have hLo7 := ho7.le
  obtain ⟨y0c0, y1c0, y2c0, y3c0⟩ := hXc0
  obtain ⟨y0o4, y1o4, y2o4, y3o4⟩ := hXo4
  go_wp2_with fail
  have hXc0 : BoxC _ _ _ _ _ _ _ _ _ _ := ⟨y0c0, y1c0, y2c0, y3c0⟩
  clear y0c0 y1c0 y2c0 y3c0
  have hXo4 : BoxC _ _ _ _ _ _ _ _ _ _ := ⟨y0o4, y1o4, y2o4, y3o4⟩
  clear y0o4 y1o4 y2o4 y3o4
  refine (eqIntS_any _ _ _ _ _ _ _ _ _ _ _ ho7.ints ho3.ints (Nat.le_refl _) (Nat.le_refl _)).mono ?_
  rintro e w12 ⟨rfl, hb12⟩
  rw [eqB_self]
  have hB12 := hB11.trans (hb12.mono hB11.size)
  have hZ12 := hb12.size
  replace ho0 := ho0.below hb12 (Nat.le_refl _)
  replace ho1 := ho1.below hb12 (Nat.le_refl _)
  replace ho2 := ho2.below hb12 (Nat.le_refl _)
  replace ho3 := ho3.below hb12 (Nat.le_refl _)
  replace ho4 := ho4.below hb12 (Nat.le_refl _)
  replace ho5 := ho5.below hb12 (Nat.le_refl _)
  replace ho6 := ho6.below hb12 (Nat.le_refl _)
  replace ho7 := ho7.below hb12 (Nat.le_refl _)
  replace hXc0 := hXc0.below hb12 (by omega)
  replace hXo4 := hXo4.below hb12 (by omega)
  obtain ⟨y0c0, y1c0, y2c0, y3c0⟩ := hXc0
  obtain ⟨y0o4, y1o4, y2o4, y3o4⟩ := hXo4
  go_wp2_with fail
  have hXc0 : BoxC _ _ _ _ _ _ _ _ _ _ := ⟨y0c0, y1c0, y2c0, y3c0⟩
  clear y0c0 y1c0 y2c0 y3c0
  have hXo4 : BoxC _ _ _ _ _ _ _ _ _ _ := ⟨y0o4, y1o4, y2o4, y3o4⟩
  clear y0o4 y1o4 y2o4 y3o4
  have hS12 : ∀ W, Below w12.heap.size w12 W → W.cell? ⟨w7.heap.size, 0, none⟩ = some (.int .i64 i0_0) ∧ W.cell? ⟨w7.heap.size, 1, none⟩ = some (.int .i64 i0_1) ∧ W.cell? ⟨w7.heap.size, 2, none⟩ = some (.slice gao4 gno4 gco4) ∧ W.cell? ⟨w7.heap.size, 3, none⟩ = some (.slice oao4 ono4 oco4) ∧ W.cell? ⟨w0.heap.size, 0, none⟩ = some (.int .i64 i0_0) ∧ W.cell? ⟨w0.heap.size, 1, none⟩ = some (.int .i64 i0_1) ∧ W.cell? ⟨w0.heap.size, 2, none⟩ = some (.slice ga0 gn0 gc0) ∧ W.cell? ⟨w0.heap.size, 3, none⟩ = some (.slice oa0 on0 oc0) ∧ Below w12.heap.size w12 W := fun W h => by
    have hx := hXo4.below h (by omega)
    have hc := hXc0.below h (by omega)
    exact ⟨hx.1, hx.2.1, hx.2.2.1, hx.2.2.2, hc.1, hc.2.1, hc.2.2.1, hc.2.2.2, h⟩
  have hT12 : ∀ W W', (W.cell? ⟨w7.heap.size, 0, none⟩ = some (.int .i64 i0_0) ∧ W.cell? ⟨w7.heap.size, 1, none⟩ = some (.int .i64 i0_1) ∧ W.cell? ⟨w7.heap.size, 2, none⟩ = some (.slice gao4 gno4 gco4) ∧ W.cell? ⟨w7.heap.size, 3, none⟩ = some (.slice oao4 ono4 oco4) ∧ W.cell? ⟨w0.heap.size, 0, none⟩ = some (.int .i64 i0_0) ∧ W.cell? ⟨w0.heap.size, 1, none⟩ = some (.int .i64 i0_1) ∧ W.cell? ⟨w0.heap.size, 2, none⟩ = some (.slice ga0 gn0 gc0) ∧ W.cell? ⟨w0.heap.size, 3, none⟩ = some (.slice oa0 on0 oc0) ∧ Below w12.heap.size w12 W) → Below W.heap.size W W' → _ := fun W W' h hb => hS12 W' (h.2.2.2.2.2.2.2.2.trans (hb.mono h.2.2.2.2.2.2.2.2.size))
  have HS12 := Lib.hid hS12
  have HT12 := Lib.hid hT12
  clear hS12 hT12
  have HF12 := Lib.hid (show ∀ W, Below w12.heap.size w12 W → (Flat 3 W W.heap.size gao4 gno4 gs0 ∧ Ints W W.heap.size oao4 ono4 os0) from fun W h => ⟨(ho4.1.flat.below h (Nat.le_refl _)).up h.size, (ho4.2.1.ints.below h (Nat.le_refl _)).up h.size⟩)
  have HG12 := Lib.hid (show ∀ W, Below w12.heap.size w12 W → (Flat 3 W W.heap.size ga0 gn0 gs0 ∧ Ints W W.heap.size oa0 on0 os0) from fun W h => ⟨(hFG0.below (hB12.trans (h.mono hB12.size)) (Nat.le_refl _)).up (hB12.trans (h.mono hB12.size)).size, (hFO0.below (hB12.trans (h.mono hB12.size)) (Nat.le_refl _)).up (hB12.trans (h.mono hB12.size)).size⟩)
  obtain ⟨y0o4, y1o4, y2o4, y3o4⟩ := hXo4
  obtain ⟨y0c0, y1c0, y2c0, y3c0⟩ := hXc0
  go_region_held3 (fun w' => w'.cell? ⟨w7.heap.size, 0, none⟩ = some (.int .i64 i0_0) ∧ w'.cell? ⟨w7.heap.size, 1, none⟩ = some (.int .i64 i0_1) ∧ w'.cell? ⟨w7.heap.size, 2, none⟩ = some (.slice gao4 gno4 gco4) ∧ w'.cell? ⟨w7.heap.size, 3, none⟩ = some (.slice oao4 ono4 oco4) ∧ w'.cell? ⟨w0.heap.size, 0, none⟩ = some (.int .i64 i0_0) ∧ w'.cell? ⟨w0.heap.size, 1, none⟩ = some (.int .i64 i0_1) ∧ w'.cell? ⟨w0.heap.size, 2, none⟩ = some (.slice ga0 gn0 gc0) ∧ w'.cell? ⟨w0.heap.size, 3, none⟩ = some (.slice oa0 on0 oc0) ∧ Below w12.heap.size w12 w') (first | exact HS12.out _ (bdrewN (Below.refl _ _) 1) | exact HT12.out _ _ (by assumption) hb13 | exact HT12.out _ _ (by assumption) hb14)
    (first | (go_at_call 17; refine (toCircuit_any _ _ _ _ _ _ _ _ _ _ _ (HG12.out _ (And.right (And.right (And.right (And.right (And.right (And.right (And.right (And.right (by assumption)))))))))).1 (HG12.out _ (And.right (And.right (And.right (And.right (And.right (And.right (And.right (And.right (by assumption)))))))))).2).mono ?_; rintro e w13 ⟨gao8, gno8, gco8, oao8, ono8, oco8, rfl, ho8, hb13⟩) | (go_at_call 19; refine (eqCircuit_any _ _ _ _ _ _ _ _ _ _ _ _ _ _ _ _ _ _ _ _ _ (HF12.out _ (And.right (And.right (And.right (And.right (And.right (And.right (And.right (And.right (by assumption)))))))))).1 (HF12.out _ (And.right (And.right (And.right (And.right (And.right (And.right (And.right (And.right (by assumption)))))))))).2 ho8.1.flat ho8.2.1.ints).mono ?_; rintro e w14 ⟨rfl, hb14⟩; rw [eqCB_self]))
  rename_i hH12
  have hXo4 : BoxC _ _ _ _ _ _ _ _ _ _ := ⟨y0o4, y1o4, y2o4, y3o4⟩
  clear y0o4 y1o4 y2o4 y3o4
  have hXc0 : BoxC _ _ _ _ _ _ _ _ _ _ := ⟨y0c0, y1c0, y2c0, y3c0⟩
  clear y0c0 y1c0 y2c0 y3c0
  replace hb14 := hH12.2.2.2.2.2.2.2.2
  clear hH12
  have hB14 := hB12.trans (hb14.mono hB12.size)
  have hZ14 := hb14.size
  replace ho0 := ho0.below hb14 (Nat.le_refl _)
  replace ho1 := ho1.below hb14 (Nat.le_refl _)
  replace ho2 := ho2.below hb14 (Nat.le_refl _)
  replace ho3 := ho3.below hb14 (Nat.le_refl _)
  replace ho4 := ho4.below hb14 (Nat.le_refl _)
  replace ho5 := ho5.below hb14 (Nat.le_refl _)
  replace ho6 := ho6.below hb14 (Nat.le_refl _)
  replace ho7 := ho7.below hb14 (Nat.le_refl _)
  replace hXc0 := hXc0.below hb14 (by omega)
  replace hXo4 := hXo4.below hb14 (by omega)
  obtain ⟨y0c0, y1c0, y2c0, y3c0⟩ := hXc0
  obtain ⟨y0o4, y1o4, y2o4, y3o4⟩ := hXo4
  go_wp2_with fail
  have hXc0 : BoxC _ _ _ _ _ _ _ _ _ _ := ⟨y0c0, y1c0, y2c0, y3c0⟩
  clear y0c0 y1c0 y2c0 y3c0
  have hXo4 : BoxC _ _ _ _ _ _ _ _ _ _ := ⟨y0o4, y1o4, y2o4, y3o4⟩
  clear y0o4 y1o4 y2o4 y3o4
  refine (toIntS_any _ _ _ _ _ ((hI1.below hB14 (Nat.le_refl _)).up hB14.size)).mono ?_
  rintro e w15 ⟨bo9, no9, co9, rfl, ho9, hb15⟩
  have hB15 := hB14.trans (hb15.mono hB14.size)
  have hZ15 := hb15.size
  replace ho0 := ho0.below hb15 (Nat.le_refl _)
  replace ho1 := ho1.below hb15 (Nat.le_refl _)
  replace ho2 := ho2.below hb15 (Nat.le_refl _)
  replace ho3 := ho3.below hb15 (Nat.le_refl _)
  replace ho4 := ho4.below hb15 (Nat.le_refl _)
  replace ho5 := ho5.below hb15 (Nat.le_refl _)
  replace ho6 := ho6.below hb15 (Nat.le_refl _)
  replace ho7 := ho7.below hb15 (Nat.le_refl _)
  replace hXc0 := hXc0.below hb15 (by omega)
  replace hXo4 := hXo4.below hb15 (by omega)
  have hro9 := ho9.rowLt
  have hLo9 := ho9.le
  obtain ⟨y0c0, y1c0, y2c0, y3c0⟩ := hXc0
  obtain ⟨y0o4, y1o4, y2o4, y3o4⟩ := hXo4
  go_wp2_with fail
  have hXc0 : BoxC _ _ _ _ _ _ _ _ _ _ := ⟨y0c0, y1c0, y2c0, y3c0⟩
  clear y0c0 y1c0 y2c0 y3c0
  have hXo4 : BoxC _ _ _ _ _ _ _ _ _ _ := ⟨y0o4, y1o4, y2o4, y3o4⟩
  clear y0o4 y1o4 y2o4 y3o4
  refine (eqIntS_any _ _ _ _ _ _ _ _ _ _ _ ho5.ints ho9.ints (Nat.le_refl _) (Nat.le_refl _)).mono ?_
  rintro e w16 ⟨rfl, hb16⟩
  rw [eqB_self]
  have hB16 := hB15.trans (hb16.mono hB15.size)
  have hZ16 := hb16.size
  replace ho0 := ho0.below hb16 (Nat.le_refl _)
  replace ho1 := ho1.below hb16 (Nat.le_refl _)
  replace ho2 := ho2.below hb16 (Nat.le_refl _)
  replace ho3 := ho3.below hb16 (Nat.le_refl _)
  replace ho4 := ho4.below hb16 (Nat.le_refl _)
  replace ho5 := ho5.below hb16 (Nat.le_refl _)
  replace ho6 := ho6.below hb16 (Nat.le_refl _)
  replace ho7 := ho7.below hb16 (Nat.le_refl _)
  replace ho9 := ho9.below hb16 (Nat.le_refl _)
  replace hXc0 := hXc0.below hb16 (by omega)
  replace hXo4 := hXo4.below hb16 (by omega)
  obtain ⟨y0c0, y1c0, y2c0, y3c0⟩ := hXc0
  obtain ⟨y0o4, y1o4, y2o4, y3o4⟩ := hXo4
  go_wp2_with fail
  have hXc0 : BoxC _ _ _ _ _ _ _ _ _ _ := ⟨y0c0, y1c0, y2c0, y3c0⟩
  clear y0c0 y1c0 y2c0 y3c0
  have hXo4 : BoxC _ _ _ _ _ _ _ _ _ _ := ⟨y0o4, y1o4, y2o4, y3o4⟩
  clear y0o4 y1o4 y2o4 y3o4
  refine (toIntS_any _ _ _ _ _ ((hI2.below hB16 (Nat.le_refl _)).up hB16.size)).mono ?_
  rintro e w17 ⟨bo10, no10, co10, rfl, ho10, hb17⟩
  have hB17 := hB16.trans (hb17.mono hB16.size)
  have hZ17 := hb17.size
  replace ho0 := ho0.below hb17 (Nat.le_refl _)
  replace ho1 := ho1.below hb17 (Nat.le_refl _)
  replace ho2 := ho2.below hb17 (Nat.le_refl _)
  replace ho3 := ho3.below hb17 (Nat.le_refl _)
  replace ho4 := ho4.below hb17 (Nat.le_refl _)
  replace ho5 := ho5.below hb17 (Nat.le_refl _)
  replace ho6 := ho6.below hb17 (Nat.le_refl _)
  replace ho7 := ho7.below hb17 (Nat.le_refl _)
  replace ho9 := ho9.below hb17 (Nat.le_refl _)
  replace hXc0 := hXc0.below hb17 (by omega)
  replace hXo4 := hXo4.below hb17 (by omega)
  have hro10 := ho10.rowLt
  have hLo10 := ho10.le
  obtain ⟨y0c0, y1c0, y2c0, y3c0⟩ := hXc0
  obtain ⟨y0o4, y1o4, y2o4, y3o4⟩ := hXo4
  go_wp2_with fail
  have hXc0 : BoxC _ _ _ _ _ _ _ _ _ _ := ⟨y0c0, y1c0, y2c0, y3c0⟩
  clear y0c0 y1c0 y2c0 y3c0
  have hXo4 : BoxC _ _ _ _ _ _ _ _ _ _ := ⟨y0o4, y1o4, y2o4, y3o4⟩
  clear y0o4 y1o4 y2o4 y3o4
  refine (eqIntS_any _ _ _ _ _ _ _ _ _ _ _ ho6.ints ho10.ints (Nat.le_refl _) (Nat.le_refl _)).mono ?_
  rintro e w18 ⟨rfl, hb18⟩
  rw [eqB_self]
  have hB18 := hB17.trans (hb18.mono hB17.size)
  have hZ18 := hb18.size
  replace ho0 := ho0.below hb18 (Nat.le_refl _)
  replace ho1 := ho1.below hb18 (Nat.le_refl _)
  replace ho2 := ho2.below hb18 (Nat.le_refl _)
  replace ho3 := ho3.below hb18 (Nat.le_refl _)
  replace ho4 := ho4.below hb18 (Nat.le_refl _)
  replace ho5 := ho5.below hb18 (Nat.le_refl _)
  replace ho6 := ho6.below hb18 (Nat.le_refl _)
  replace ho7 := ho7.below hb18 (Nat.le_refl _)
  replace ho9 := ho9.below hb18 (Nat.le_refl _)
  replace ho10 := ho10.below hb18 (Nat.le_refl _)
  replace hXc0 := hXc0.below hb18 (by omega)
  replace hXo4 := hXo4.below hb18 (by omega)
  obtain ⟨y0c0, y1c0, y2c0, y3c0⟩ := hXc0
  obtain ⟨y0o4, y1o4, y2o4, y3o4⟩ := hXo4
  go_wp2_with fail
  have hXc0 : BoxC _ _ _ _ _ _ _ _ _ _ := ⟨y0c0, y1c0, y2c0, y3c0⟩
  clear y0c0 y1c0 y2c0 y3c0
  have hXo4 : BoxC _ _ _ _ _ _ _ _ _ _ := ⟨y0o4, y1o4, y2o4, y3o4⟩
  clear y0o4 y1o4 y2o4 y3o4
  refine (markCircuit_any _ _ _ _ _ _ _ _ _ _ _ _ _ ho4 (by omega) (by omega) (by omega)).mono ?_
  rintro e w19 ⟨rfl, hm19, u19, hg19, hk19⟩
  have hC19 : Below w0.heap.size w0 u19 := hB18.grown hg19 hB18.size (fun k hk => by have := hro4 k hk; omega)
  have hB19 : Below w0.heap.size w0 w19 := hC19.grown hk19 hC19.size (fun k hk => by have := hpo4 k hk; omega)
  have hZ19 := Nat.le_trans hg19.size hk19.size
  have hY19 := hg19.size
  have hV19 := hk19.size
  replace ho0 := ho0.other hg19 (fun k l h1 h2 => by have := hro0 k h1; have := hro4 l h2; omega) (fun k l h1 h2 => by have := hpo0 k h1; have := hro4 l h2; omega)
  replace ho1 := ho1.other hg19 (fun k l h1 h2 => by have := hro1 k h1; have := hro4 l h2; omega)
  replace ho2 := ho2.other hg19 (fun k l h1 h2 => by have := hro2 k h1; have := hro4 l h2; omega)
  replace ho3 := ho3.other hg19 (fun k l h1 h2 => by have := hro3 k h1; have := hro4 l h2; omega)
  replace ho5 := ho5.other hg19 (fun k l h1 h2 => by have := hro5 k h1; have := hro4 l h2; omega)
  replace ho6 := ho6.other hg19 (fun k l h1 h2 => by have := hro6 k h1; have := hro4 l h2; omega)
  replace ho7 := ho7.other hg19 (fun k l h1 h2 => by have := hro7 k h1; have := hro4 l h2; omega)
  replace ho9 := ho9.other hg19 (fun k l h1 h2 => by have := hro9 k h1; have := hro4 l h2; omega)
  replace ho10 := ho10.other hg19 (fun k l h1 h2 => by have := hro10 k h1; have := hro4 l h2; omega)
  replace hXc0 := hXc0.other hg19 (by omega) (fun l h2 => by have := hro4 l h2; omega)
  replace hXo4 := hXo4.other hg19 (by omega) (fun l h2 => by have := hro4 l h2; omega)
  replace ho0 := ho0.other hk19 (fun k l h1 h2 => by have := hro0 k h1; have := hpo4 l h2; omega) (fun k l h1 h2 => by have := hpo0 k h1; have := hpo4 l h2; omega)
  replace ho1 := ho1.other hk19 (fun k l h1 h2 => by have := hro1 k h1; have := hpo4 l h2; omega)
  replace ho2 := ho2.other hk19 (fun k l h1 h2 => by have := hro2 k h1; have := hpo4 l h2; omega)
  replace ho3 := ho3.other hk19 (fun k l h1 h2 => by have := hro3 k h1; have := hpo4 l h2; omega)
  replace ho5 := ho5.other hk19 (fun k l h1 h2 => by have := hro5 k h1; have := hpo4 l h2; omega)
  replace ho6 := ho6.other hk19 (fun k l h1 h2 => by have := hro6 k h1; have := hpo4 l h2; omega)
  replace ho7 := ho7.other hk19 (fun k l h1 h2 => by have := hro7 k h1; have := hpo4 l h2; omega)
  replace ho9 := ho9.other hk19 (fun k l h1 h2 => by have := hro9 k h1; have := hpo4 l h2; omega)
  replace ho10 := ho10.other hk19 (fun k l h1 h2 => by have := hro10 k h1; have := hpo4 l h2; omega)
  replace hXc0 := hXc0.other hk19 (by omega) (fun l h2 => by have := hpo4 l h2; omega)
  replace hXo4 := hXo4.other hk19 (by omega) (fun l h2 => by have := hpo4 l h2; omega)
  replace ho4 := hm19
  clear hm19
  obtain ⟨y0c0, y1c0, y2c0, y3c0⟩ := hXc0
  obtain ⟨y0o4, y1o4, y2o4, y3o4⟩ := hXo4
  go_wp2_with fail
  have hXc0 : BoxC _ _ _ _ _ _ _ _ _ _ := ⟨y0c0, y1c0, y2c0, y3c0⟩
  clear y0c0 y1c0 y2c0 y3c0
  have hXo4 : BoxC _ _ _ _ _ _ _ _ _ _ := ⟨y0o4, y1o4, y2o4, y3o4⟩
  clear y0o4 y1o4 y2o4 y3o4
  refine (markIntS_any _ _ _ _ _ _ _ ho5 (by omega) (by omega)).mono ?_
  rintro e w20 ⟨rfl, hm20, hg20⟩
  have hB20 : Below w0.heap.size w0 w20 := hB19.grown hg20 hB19.size (fun k hk => by have := hro5 k hk; omega)
  have hZ20 := hg20.size
  replace ho0 := ho0.other hg20 (fun k l h1 h2 => by have := hro0 k h1; have := hro5 l h2; omega) (fun k l h1 h2 => by have := hpo0 k h1; have := hro5 l h2; omega)
  replace ho1 := ho1.other hg20 (fun k l h1 h2 => by have := hro1 k h1; have := hro5 l h2; omega)
  replace ho2 := ho2.other hg20 (fun k l h1 h2 => by have := hro2 k h1; have := hro5 l h2; omega)
  replace ho3 := ho3.other hg20 (fun k l h1 h2 => by have := hro3 k h1; have := hro5 l h2; omega)
  replace ho4 := ho4.other hg20 (fun k l h1 h2 => by have := hro4 k h1; have := hro5 l h2; omega) (fun k l h1 h2 => by have := hpo4 k h1; have := hro5 l h2; omega)
  replace ho6 := ho6.other hg20 (fun k l h1 h2 => by have := hro6 k h1; have := hro5 l h2; omega)
  replace ho7 := ho7.other hg20 (fun k l h1 h2 => by have := hro7 k h1; have := hro5 l h2; omega)
  replace ho9 := ho9.other hg20 (fun k l h1 h2 => by have := hro9 k h1; have := hro5 l h2; omega)
  replace ho10 := ho10.other hg20 (fun k l h1 h2 => by have := hro10 k h1; have := hro5 l h2; omega)
  replace hXc0 := hXc0.other hg20 (by omega) (fun l h2 => by have := hro5 l h2; omega)
  replace hXo4 := hXo4.other hg20 (by omega) (fun l h2 => by have := hro5 l h2; omega)
  replace ho5 := hm20
  clear hm20
  obtain ⟨y0c0, y1c0, y2c0, y3c0⟩ := hXc0
  obtain ⟨y0o4, y1o4, y2o4, y3o4⟩ := hXo4
  go_wp2_with fail
  have hXc0 : BoxC _ _ _ _ _ _ _ _ _ _ := ⟨y0c0, y1c0, y2c0, y3c0⟩
  clear y0c0 y1c0 y2c0 y3c0
  have hXo4 : BoxC _ _ _ _ _ _ _ _ _ _ := ⟨y0o4, y1o4, y2o4, y3o4⟩
  clear y0o4 y1o4 y2o4 y3o4
  refine (markIntS_any _ _ _ _ _ _ _ ho6 (by omega) (by omega)).mono ?_
  rintro e w21 ⟨rfl, hm21, hg21⟩
  have hB21 : Below w0.heap.size w0 w21 := hB20.grown hg21 hB20.size (fun k hk => by have := hro6 k hk; omega)
  have hZ21 := hg21.size
  replace ho0 := ho0.other hg21 (fun k l h1 h2 => by have := hro0 k h1; have := hro6 l h2; omega) (fun k l h1 h2 => by have := hpo0 k h1; have := hro6 l h2; omega)
  replace ho1 := ho1.other hg21 (fun k l h1 h2 => by have := hro1 k h1; have := hro6 l h2; omega)
  replace ho2 := ho2.other hg21 (fun k l h1 h2 => by have := hro2 k h1; have := hro6 l h2; omega)
  replace ho3 := ho3.other hg21 (fun k l h1 h2 => by have := hro3 k h1; have := hro6 l h2; omega)
  replace ho4 := ho4.other hg21 (fun k l h1 h2 => by have := hro4 k h1; have := hro6 l h2; omega) (fun k l h1 h2 => by have := hpo4 k h1; have := hro6 l h2; omega)
  replace ho5 := ho5.other hg21 (fun k l h1 h2 => by have := hro5 k h1; have := hro6 l h2; omega)
  replace ho7 := ho7.other hg21 (fun k l h1 h2 => by have := hro7 k h1; have := hro6 l h2; omega)
  replace ho9 := ho9.other hg21 (fun k l h1 h2 => by have := hro9 k h1; have := hro6 l h2; omega)
  replace ho10 := ho10.other hg21 (fun k l h1 h2 => by have := hro10 k h1; have := hro6 l h2; omega)
  replace hXc0 := hXc0.other hg21 (by omega) (fun l h2 => by have := hro6 l h2; omega)
  replace hXo4 := hXo4.other hg21 (by omega) (fun l h2 => by have := hro6 l h2; omega)
  replace ho6 := hm21
  clear hm21
  obtain ⟨y0c0, y1c0, y2c0, y3c0⟩ := hXc0
  obtain ⟨y0o4, y1o4, y2o4, y3o4⟩ := hXo4
  go_wp2_with fail
  have hXc0 : BoxC _ _ _ _ _ _ _ _ _ _ := ⟨y0c0, y1c0, y2c0, y3c0⟩
  clear y0c0 y1c0 y2c0 y3c0
  have hXo4 : BoxC _ _ _ _ _ _ _ _ _ _ := ⟨y0o4, y1o4, y2o4, y3o4⟩
  clear y0o4 y1o4 y2o4 y3o4
  refine (eqIntS_any _ _ _ _ _ _ _ _ _ _ _ ho7.ints ho3.ints (Nat.le_refl _) (Nat.le_refl _)).mono ?_
  rintro e w22 ⟨rfl, hb22⟩
  rw [eqB_self]
  have hB22 := hB21.trans (hb22.mono hB21.size)
  have hZ22 := hb22.size
  replace ho0 := ho0.below hb22 (Nat.le_refl _)
  replace ho1 := ho1.below hb22 (Nat.le_refl _)
  replace ho2 := ho2.below hb22 (Nat.le_refl _)
  replace ho3 := ho3.below hb22 (Nat.le_refl _)
  replace ho4 := ho4.below hb22 (Nat.le_refl _)
  replace ho5 := ho5.below hb22 (Nat.le_refl _)
  replace ho6 := ho6.below hb22 (Nat.le_refl _)
  replace ho7 := ho7.below hb22 (Nat.le_refl _)
  replace ho9 := ho9.below hb22 (Nat.le_refl _)
  replace ho10 := ho10.below hb22 (Nat.le_refl _)
  replace hXc0 := hXc0.below hb22 (by omega)
  replace hXo4 := hXo4.below hb22 (by omega)
  obtain ⟨y0c0, y1c0, y2c0, y3c0⟩ := hXc0
  obtain ⟨y0o4, y1o4, y2o4, y3o4⟩ := hXo4
  go_wp2_with fail
  have hXc0 : BoxC _ _ _ _ _ _ _ _ _ _ := ⟨y0c0, y1c0, y2c0, y3c0⟩
  clear y0c0 y1c0 y2c0 y3c0
  have hXo4 : BoxC _ _ _ _ _ _ _ _ _ _ := ⟨y0o4, y1o4, y2o4, y3o4⟩
  clear y0o4 y1o4 y2o4 y3o4
  refine (markIntS_any _ _ _ _ _ 1 _ ho7 (by omega) (by omega)).mono ?_
  rintro e w23 ⟨rfl, hm23, hg23⟩
  have hB23 : Below w0.heap.size w0 w23 := hB22.grown hg23 hB22.size (fun k hk => by have := hro7 k hk; omega)
  have hZ23 := hg23.size
  replace ho0 := ho0.other hg23 (fun k l h1 h2 => by have := hro0 k h1; have := hro7 l h2; omega) (fun k l h1 h2 => by have := hpo0 k h1; have := hro7 l h2; omega)
  replace ho1 := ho1.other hg23 (fun k l h1 h2 => by have := hro1 k h1; have := hro7 l h2; omega)
  replace ho2 := ho2.other hg23 (fun k l h1 h2 => by have := hro2 k h1; have := hro7 l h2; omega)
  replace ho3 := ho3.other hg23 (fun k l h1 h2 => by have := hro3 k h1; have := hro7 l h2; omega)
  replace ho4 := ho4.other hg23 (fun k l h1 h2 => by have := hro4 k h1; have := hro7 l h2; omega) (fun k l h1 h2 => by have := hpo4 k h1; have := hro7 l h2; omega)
  replace ho5 := ho5.other hg23 (fun k l h1 h2 => by have := hro5 k h1; have := hro7 l h2; omega)
  replace ho6 := ho6.other hg23 (fun k l h1 h2 => by have := hro6 k h1; have := hro7 l h2; omega)
  replace ho9 := ho9.other hg23 (fun k l h1 h2 => by have := hro9 k h1; have := hro7 l h2; omega)
  replace ho10 := ho10.other hg23 (fun k l h1 h2 => by have := hro10 k h1; have := hro7 l h2; omega)
  replace hXc0 := hXc0.other hg23 (by omega) (fun l h2 => by have := hro7 l h2; omega)
  replace hXo4 := hXo4.other hg23 (by omega) (fun l h2 => by have := hro7 l h2; omega)
  replace ho7 := hm23
  clear hm23
  obtain ⟨y0c0, y1c0, y2c0, y3c0⟩ := hXc0
  obtain ⟨y0o4, y1o4, y2o4, y3o4⟩ := hXo4
  go_wp2_with fail
  have hXc0 : BoxC _ _ _ _ _ _ _ _ _ _ := ⟨y0c0, y1c0, y2c0, y3c0⟩
  clear y0c0 y1c0 y2c0 y3c0
  have hXo4 : BoxC _ _ _ _ _ _ _ _ _ _ := ⟨y0o4, y1o4, y2o4, y3o4⟩
  clear y0o4 y1o4 y2o4 y3o4
  refine (heldIntS_any _ _ _ _ _ _ _ ho7.ints (by omega) (by omega) (marks_held _ _)).mono ?_
  rintro e w' ⟨rfl, rfl⟩
  obtain ⟨y0c0, y1c0, y2c0, y3c0⟩ := hXc0
  obtain ⟨y0o4, y1o4, y2o4, y3o4⟩ := hXo4
  go_wp2_with fail
  have hXc0 : BoxC _ _ _ _ _ _ _ _ _ _ := ⟨y0c0, y1c0, y2c0, y3c0⟩
  clear y0c0 y1c0 y2c0 y3c0
  have hXo4 : BoxC _ _ _ _ _ _ _ _ _ _ := ⟨y0o4, y1o4, y2o4, y3o4⟩
  clear y0o4 y1o4 y2o4 y3o4
  refine (toCircuit_any _ _ _ _ _ _ _ _ _ _ _ ((hFG0.below hB23 (Nat.le_refl _)).up hB23.size) ((hFO0.below hB23 (Nat.le_refl _)).up hB23.size)).mono ?_
  rintro e w24 ⟨gao11, gno11, gco11, oao11, ono11, oco11, rfl, ho11, hb24⟩
  unfold circV
  have hB24 := hB23.trans (hb24.mono hB23.size)
  have hZ24 := hb24.size
  replace ho0 := ho0.below hb24 (Nat.le_refl _)
  replace ho1 := ho1.below hb24 (Nat.le_refl _)
  replace ho2 := ho2.below hb24 (Nat.le_refl _)
  replace ho3 := ho3.below hb24 (Nat.le_refl _)
  replace ho4 := ho4.below hb24 (Nat.le_refl _)
  replace ho5 := ho5.below hb24 (Nat.le_refl _)
  replace ho6 := ho6.below hb24 (Nat.le_refl _)
  replace ho7 := ho7.below hb24 (Nat.le_refl _)
  replace ho9 := ho9.below hb24 (Nat.le_refl _)
  replace ho10 := ho10.below hb24 (Nat.le_refl _)
  replace hXc0 := hXc0.below hb24 (by omega)
  replace hXo4 := hXo4.below hb24 (by omega)
  have hro11 := ho11.1.rowLt
  have hpo11 := ho11.2.1.rowLt
  have hLo11 := ho11.1.le
  have hMo11 := ho11.2.1.le
  obtain ⟨y0c0, y1c0, y2c0, y3c0⟩ := hXc0
  obtain ⟨y0o4, y1o4, y2o4, y3o4⟩ := hXo4
  go_wp2_with fail
  have hXc0 : BoxC _ _ _ _ _ _ _ _ _ _ := ⟨y0c0, y1c0, y2c0, y3c0⟩
  clear y0c0 y1c0 y2c0 y3c0
  have hXo4 : BoxC _ _ _ _ _ _ _ _ _ _ := ⟨y0o4, y1o4, y2o4, y3o4⟩
  clear y0o4 y1o4 y2o4 y3o4
  refine (toIntS_any _ _ _ _ _ ((hI1.below hB24 (Nat.le_refl _)).up hB24.size)).mono ?_
  rintro e w25 ⟨bo12, no12, co12, rfl, ho12, hb25⟩
  have hB25 := hB24.trans (hb25.mono hB24.size)
  have hZ25 := hb25.size
  replace ho0 := ho0.below hb25 (Nat.le_refl _)
  replace ho1 := ho1.below hb25 (Nat.le_refl _)
  replace ho2 := ho2.below hb25 (Nat.le_refl _)
  replace ho3 := ho3.below hb25 (Nat.le_refl _)
  replace ho4 := ho4.below hb25 (Nat.le_refl _)
  replace ho5 := ho5.below hb25 (Nat.le_refl _)
  replace ho6 := ho6.below hb25 (Nat.le_refl _)
  replace ho7 := ho7.below hb25 (Nat.le_refl _)
  replace ho9 := ho9.below hb25 (Nat.le_refl _)
  replace ho10 := ho10.below hb25 (Nat.le_refl _)
  replace ho11 := ho11.below hb25 (Nat.le_refl _)
  replace hXc0 := hXc0.below hb25 (by omega)
  replace hXo4 := hXo4.below hb25 (by omega)
  have hro12 := ho12.rowLt
  have hLo12 := ho12.le
  obtain ⟨y0c0, y1c0, y2c0, y3c0⟩ := hXc0
  obtain ⟨y0o4, y1o4, y2o4, y3o4⟩ := hXo4
  go_wp2_with fail
  have hXc0 : BoxC _ _ _ _ _ _ _ _ _ _ := ⟨y0c0, y1c0, y2c0, y3c0⟩
  clear y0c0 y1c0 y2c0 y3c0
  have hXo4 : BoxC _ _ _ _ _ _ _ _ _ _ := ⟨y0o4, y1o4, y2o4, y3o4⟩
  clear y0o4 y1o4 y2o4 y3o4
  refine (toIntS_any _ _ _ _ _ ((hI2.below hB25 (Nat.le_refl _)).up hB25.size)).mono ?_
  rintro e w26 ⟨bo13, no13, co13, rfl, ho13, hb26⟩
  have hB26 := hB25.trans (hb26.mono hB25.size)
  have hZ26 := hb26.size
  replace ho0 := ho0.below hb26 (Nat.le_refl _)
  replace ho1 := ho1.below hb26 (Nat.le_refl _)
  replace ho2 := ho2.below hb26 (Nat.le_refl _)
  replace ho3 := ho3.below hb26 (Nat.le_refl _)
  replace ho4 := ho4.below hb26 (Nat.le_refl _)
  replace ho5 := ho5.below hb26 (Nat.le_refl _)
  replace ho6 := ho6.below hb26 (Nat.le_refl _)
  replace ho7 := ho7.below hb26 (Nat.le_refl _)
  replace ho9 := ho9.below hb26 (Nat.le_refl _)
  replace ho10 := ho10.below hb26 (Nat.le_refl _)
  replace ho11 := ho11.below hb26 (Nat.le_refl _)
  replace ho12 := ho12.below hb26 (Nat.le_refl _)
  replace hXc0 := hXc0.below hb26 (by omega)
  replace hXo4 := hXo4.below hb26 (by omega)
  have hro13 := ho13.rowLt
  have hLo13 := ho13.le
  obtain ⟨y0c0, y1c0, y2c0, y3c0⟩ := hXc0
  obtain ⟨y0o4, y1o4, y2o4, y3o4⟩ := hXo4
  go_wp2_with fail
  have hXc0 : BoxC _ _ _ _ _ _ _ _ _ _ := ⟨y0c0, y1c0, y2c0, y3c0⟩
  clear y0c0 y1c0 y2c0 y3c0
  have hXo4 : BoxC _ _ _ _ _ _ _ _ _ _ := ⟨y0o4, y1o4, y2o4, y3o4⟩
  clear y0o4 y1o4 y2o4 y3o4
  refine (impl_WireValues_any _ _ _ _ _ _ _ _ _ _ _ _ _ _ _ _ _ _ _ ho11.1.flat ho11.2.1.ints ho12.ints ho13.ints).mono ?_
  rintro e w27 ⟨bo14, no14, co14, rfl, ho14, hb27⟩
  rw [← HANS.out]
  rw [← HANS.out] at ho14
  have hB27 := hB26.trans (hb27.mono hB26.size)
  have hZ27 := hb27.size
  replace ho0 := ho0.below hb27 (Nat.le_refl _)
  replace ho1 := ho1.below hb27 (Nat.le_refl _)
  replace ho2 := ho2.below hb27 (Nat.le_refl _)
  replace ho3 := ho3.below hb27 (Nat.le_refl _)
  replace ho4 := ho4.below hb27 (Nat.le_refl _)
  replace ho5 := ho5.below hb27 (Nat.le_refl _)
  replace ho6 := ho6.below hb27 (Nat.le_refl _)
  replace ho7 := ho7.below hb27 (Nat.le_refl _)
  replace ho9 := ho9.below hb27 (Nat.le_refl _)
  replace ho10 := ho10.below hb27 (Nat.le_refl _)
  replace ho11 := ho11.below hb27 (Nat.le_refl _)
  replace ho12 := ho12.below hb27 (Nat.le_refl _)
  replace ho13 := ho13.below hb27 (Nat.le_refl _)
  replace hXc0 := hXc0.below hb27 (by omega)
  replace hXo4 := hXo4.below hb27 (by omega)
  have hro14 := ho14.rowLt
  have hLo14 := ho14.le
  obtain ⟨y0c0, y1c0, y2c0, y3c0⟩ := hXc0
  obtain ⟨y0o4, y1o4, y2o4, y3o4⟩ := hXo4
  go_wp2_with fail
  have hXc0 : BoxC _ _ _ _ _ _ _ _ _ _ := ⟨y0c0, y1c0, y2c0, y3c0⟩
  clear y0c0 y1c0 y2c0 y3c0
  have hXo4 : BoxC _ _ _ _ _ _ _ _ _ _ := ⟨y0o4, y1o4, y2o4, y3o4⟩
  clear y0o4 y1o4 y2o4 y3o4
  refine (eqIntS_any _ _ _ _ _ _ _ _ _ _ _ ho14.ints ho3.ints (Nat.le_refl _) (Nat.le_refl _)).mono ?_
  rintro e w28 ⟨rfl, hb28⟩
  rw [eqB_self]
  have hB28 := hB27.trans (hb28.mono hB27.size)
  have hZ28 := hb28.size
  replace ho0 := ho0.below hb28 (Nat.le_refl _)
  replace ho1 := ho1.below hb28 (Nat.le_refl _)
  replace ho2 := ho2.below hb28 (Nat.le_refl _)
  replace ho3 := ho3.below hb28 (Nat.le_refl _)
  replace ho4 := ho4.below hb28 (Nat.le_refl _)
  replace ho5 := ho5.below hb28 (Nat.le_refl _)
  replace ho6 := ho6.below hb28 (Nat.le_refl _)
  replace ho7 := ho7.below hb28 (Nat.le_refl _)
  replace ho9 := ho9.below hb28 (Nat.le_refl _)
  replace ho10 := ho10.below hb28 (Nat.le_refl _)
  replace ho11 := ho11.below hb28 (Nat.le_refl _)
  replace ho12 := ho12.below hb28 (Nat.le_refl _)
  replace ho13 := ho13.below hb28 (Nat.le_refl _)
  replace ho14 := ho14.below hb28 (Nat.le_refl _)
  replace hXc0 := hXc0.below hb28 (by omega)
  replace hXo4 := hXo4.below hb28 (by omega)
  obtain ⟨y0c0, y1c0, y2c0, y3c0⟩ := hXc0
  obtain ⟨y0o4, y1o4, y2o4, y3o4⟩ := hXo4
  go_wp2_with fail
  have hXc0 : BoxC _ _ _ _ _ _ _ _ _ _ := ⟨y0c0, y1c0, y2c0, y3c0⟩
  clear y0c0 y1c0 y2c0 y3c0
  have hXo4 : BoxC _ _ _ _ _ _ _ _ _ _ := ⟨y0o4, y1o4, y2o4, y3o4⟩
  clear y0o4 y1o4 y2o4 y3o4
  refine (heldIntS_any _ _ _ _ _ _ _ ho7.ints (by omega) (by omega) (marks_held _ _)).mono ?_
  rintro e w' ⟨rfl, rfl⟩
  go_wp2_with fail
  go_ret
  exact ⟨rfl, hB28⟩
set_option maxHeartbeats 4000000 in
theorem walk_FnExactEvalCircuit (i0_0 i0_1 : Int) (ga0 oa0 : Option Addr) (gn0 gc0 on0 oc0 : Nat) (gs0 os0 : List Int) (a1 : Option Addr) (n1 c1 : Nat) (z1 : List Int) (a2 : Option Addr) (n2 c2 : Nat) (z2 : List Int) (w0 : World) (hG0 : FlatArg 3 w0 ga0 gn0 gs0) (hO0 : IntsArg w0 oa0 on0 os0) (hA1 : IntsArg w0 a1 n1 z1) (hA2 : IntsArg w0 a2 n2 z2) : Calls Try.prog 14 #[circV i0_0 i0_1 ga0 gn0 gc0 oa0 on0 oc0, .slice a1 n1 c1, .slice a2 n2 c2] w0 (RetB true w0) := by
  have hs1 := hA1.2.1
  unfold maxLen at hs1
  have hs2 := hA2.2.1
  unfold maxLen at hs2
  have hs0 := hG0.2.1
  have ht0 := hO0.2.1
  unfold maxLen at hs0 ht0
  by_cases hg1 : n1 ≤ 1048576
  rotate_left
  · have hg1' : ¬ (n1 : Int) ≤ 1048576 := by omega
    unfold circV
    go_enter Try.func14, Try.ntmps14
    go_wp2_with fail
    go_ret
    exact ⟨rfl, (Below.refl _ _).alloc (Nat.le_refl _) _⟩
  by_cases hg2 : n2 ≤ 1048576
  rotate_left
  · have hg2' : ¬ (n2 : Int) ≤ 1048576 := by omega
    unfold circV
    go_enter Try.func14, Try.ntmps14
    go_wp2_with fail
    go_ret
    exact ⟨rfl, (Below.refl _ _).alloc (Nat.le_refl _) _⟩
  by_cases hg0 : gn0 + on0 ≤ 1048576
  rotate_left
  · unfold circV
    go_enter Try.func14, Try.ntmps14
    go_wp2_with fail
    refine (szCircuit_any _ _ _ _ _ _ _ _ _ 1048576 (by omega) (by omega) hG0.2.1 hO0.2.1).mono ?_
    rintro e w1 ⟨rfl, hb1⟩
    rw [show szC 1048576 gn0 on0 = -1 from by unfold szC; split <;> (try split) <;> omega]
    go_wp2_with fail
    go_ret
    exact ⟨rfl, ((Below.refl _ _).alloc (Nat.le_refl _) _).trans (hb1.mono (by simp))⟩
  have hI1 := hA1.ints hg1
  have hI2 := hA2.ints hg2
  have hFG0 := hG0.flat (by omega)
  have hFO0 := hO0.ints (by omega)
  have hB0 : Below w0.heap.size w0 w0 := Below.refl _ _
  obtain ⟨ans, hans⟩ : ∃ r, r = evalCircuitF i0_0 i0_1 gs0 os0 z1 z2 := ⟨_, rfl⟩
  have HANS := Lib.hid hans
  clear hans
  unfold circV
  go_enter Try.func14, Try.ntmps14
  go_wp2_with fail
  have hb1 : Below w0.heap.size w0 (w0.alloc (.cells #[.int .i64 i0_0, .int .i64 i0_1, .slice ga0 gn0 gc0, .slice oa0 on0 oc0] 25)) := (Below.refl _ _).alloc (Nat.le_refl _) _
  have hXc0 := boxC_new w0 (i0_0) (i0_1) ga0 gn0 gc0 oa0 on0 oc0 25
  have hWc0 : w0.heap.size < (w0.alloc (.cells #[.int .i64 i0_0, .int .i64 i0_1, .slice ga0 gn0 gc0, .slice oa0 on0 oc0] 25)).heap.size := by simp
  generalize w0.alloc (.cells #[.int .i64 i0_0, .int .i64 i0_1, .slice ga0 gn0 gc0, .slice oa0 on0 oc0] 25) = w1 at *
  have hB1 := hB0.trans (hb1.mono hB0.size)
  have hZ1 := hb1.size
  obtain ⟨y0c0, y1c0, y2c0, y3c0⟩ := hXc0
  have hXc0 : BoxC _ _ _ _ _ _ _ _ _ _ := ⟨y0c0, y1c0, y2c0, y3c0⟩
  clear y0c0 y1c0 y2c0 y3c0
  refine (szCircuit_any _ _ _ _ _ _ _ _ _ 1048576 (by omega) (by omega) hG0.2.1 hO0.2.1).mono ?_
  rintro e w2 ⟨rfl, hb2⟩
  rw [show szC 1048576 gn0 on0 = 1048576 - gn0 - on0 from by unfold szC; split <;> (try split) <;> omega]
  have hB2 := hB1.trans (hb2.mono hB1.size)
  have hZ2 := hb2.size
  replace hXc0 := hXc0.below hb2 (by omega)
  obtain ⟨y0c0, y1c0, y2c0, y3c0⟩ := hXc0
  go_wp2_with fail
  have hXc0 : BoxC _ _ _ _ _ _ _ _ _ _ := ⟨y0c0, y1c0, y2c0, y3c0⟩
  clear y0c0 y1c0 y2c0 y3c0
  refine (toCircuit_any _ _ _ _ _ _ _ _ _ _ _ ((hFG0.below hB2 (Nat.le_refl _)).up hB2.size) ((hFO0.below hB2 (Nat.le_refl _)).up hB2.size)).mono ?_
  rintro e w3 ⟨gao0, gno0, gco0, oao0, ono0, oco0, rfl, ho0, hb3⟩
  unfold circV
  have hB3 := hB2.trans (hb3.mono hB2.size)
  have hZ3 := hb3.size
  replace hXc0 := hXc0.below hb3 (by omega)
  have hro0 := ho0.1.rowLt
  have hpo0 := ho0.2.1.rowLt
  have hLo0 := ho0.1.le
  have hMo0 := ho0.2.1.le
  obtain ⟨y0c0, y1c0, y2c0, y3c0⟩ := hXc0
  go_wp2_with fail
  have hXc0 : BoxC _ _ _ _ _ _ _ _ _ _ := ⟨y0c0, y1c0, y2c0, y3c0⟩
  clear y0c0 y1c0 y2c0 y3c0
  refine (toIntS_any _ _ _ _ _ ((hI1.below hB3 (Nat.le_refl _)).up hB3.size)).mono ?_
  rintro e w4 ⟨bo1, no1, co1, rfl, ho1, hb4⟩
  have hB4 := hB3.trans (hb4.mono hB3.size)
  have hZ4 := hb4.size
  replace ho0 := ho0.below hb4 (Nat.le_refl _)
  replace hXc0 := hXc0.below hb4 (by omega)
  have hro1 := ho1.rowLt
  have hLo1 := ho1.le
  obtain ⟨y0c0, y1c0, y2c0, y3c0⟩ := hXc0
  go_wp2_with fail
  have hXc0 : BoxC _ _ _ _ _ _ _ _ _ _ := ⟨y0c0, y1c0, y2c0, y3c0⟩
  clear y0c0 y1c0 y2c0 y3c0
  refine (toIntS_any _ _ _ _ _ ((hI2.below hB4 (Nat.le_refl _)).up hB4.size)).mono ?_
  rintro e w5 ⟨bo2, no2, co2, rfl, ho2, hb5⟩
  have hB5 := hB4.trans (hb5.mono hB4.size)
  have hZ5 := hb5.size
  replace ho0 := ho0.below hb5 (Nat.le_refl _)
  replace ho1 := ho1.below hb5 (Nat.le_refl _)
  replace hXc0 := hXc0.below hb5 (by omega)
  have hro2 := ho2.rowLt
  have hLo2 := ho2.le
  obtain ⟨y0c0, y1c0, y2c0, y3c0⟩ := hXc0
  go_wp2_with fail
  have hXc0 : BoxC _ _ _ _ _ _ _ _ _ _ := ⟨y0c0, y1c0, y2c0, y3c0⟩
  clear y0c0 y1c0 y2c0 y3c0
  refine (spec_EvalCircuit_any _ _ _ _ _ _ _ _ _ _ _ _ _ _ _ _ _ _ _ ho0.1.flat ho0.2.1.ints ho1.ints ho2.ints).mono ?_
  rintro e w6 ⟨bo3, no3, co3, rfl, ho3, hb6⟩
  rw [← HANS.out]
  rw [← HANS.out] at ho3
  have hB6 := hB5.trans (hb6.mono hB5.size)
  have hZ6 := hb6.size
  replace ho0 := ho0.below hb6 (Nat.le_refl _)
  replace ho1 := ho1.below hb6 (Nat.le_refl _)
  replace ho2 := ho2.below hb6 (Nat.le_refl _)
  replace hXc0 := hXc0.below hb6 (by omega)
  have hro3 := ho3.rowLt
  have hLo3 := ho3.le
  obtain ⟨y0c0, y1c0, y2c0, y3c0⟩ := hXc0
  go_wp2_with fail
  have hXc0 : BoxC _ _ _ _ _ _ _ _ _ _ := ⟨y0c0, y1c0, y2c0, y3c0⟩
  clear y0c0 y1c0 y2c0 y3c0
  refine (toCircuit_any _ _ _ _ _ _ _ _ _ _ _ ((hFG0.below hB6 (Nat.le_refl _)).up hB6.size) ((hFO0.below hB6 (Nat.le_refl _)).up hB6.size)).mono ?_
  rintro e w7 ⟨gao4, gno4, gco4, oao4, ono4, oco4, rfl, ho4, hb7⟩
  unfold circV
  have hB7 := hB6.trans (hb7.mono hB6.size)
  have hZ7 := hb7.size
  replace ho0 := ho0.below hb7 (Nat.le_refl _)
  replace ho1 := ho1.below hb7 (Nat.le_refl _)
  replace ho2 := ho2.below hb7 (Nat.le_refl _)
  replace ho3 := ho3.below hb7 (Nat.le_refl _)
  replace hXc0 := hXc0.below hb7 (by omega)
  have hro4 := ho4.1.rowLt
  have hpo4 := ho4.2.1.rowLt
  have hLo4 := ho4.1.le
  have hMo4 := ho4.2.1.le
  go_wp2_with fail
  have hb8 : Below w7.heap.size w7 (w7.alloc (.cells #[.int .i64 i0_0, .int .i64 i0_1, .slice gao4 gno4 gco4, .slice oao4 ono4 oco4] 30)) := (Below.refl _ _).alloc (Nat.le_refl _) _
  have hXo4 := boxC_new w7 (i0_0) (i0_1) gao4 gno4 gco4 oao4 ono4 oco4 30
  have hWo4 : w7.heap.size < (w7.alloc (.cells #[.int .i64 i0_0, .int .i64 i0_1, .slice gao4 gno4 gco4, .slice oao4 ono4 oco4] 30)).heap.size := by simp
  generalize w7.alloc (.cells #[.int .i64 i0_0, .int .i64 i0_1, .slice gao4 gno4 gco4, .slice oao4 ono4 oco4] 30) = w8 at *
  have hB8 := hB7.trans (hb8.mono hB7.size)
  have hZ8 := hb8.size
  replace ho0 := ho0.below hb8 (Nat.le_refl _)
  replace ho1 := ho1.below hb8 (Nat.le_refl _)
  replace ho2 := ho2.below hb8 (Nat.le_refl _)
  replace ho3 := ho3.below hb8 (Nat.le_refl _)
  replace ho4 := ho4.below hb8 (Nat.le_refl _)
  replace hXc0 := hXc0.below hb8 (by omega)
  obtain ⟨y0c0, y1c0, y2c0, y3c0⟩ := hXc0
  obtain ⟨y0o4, y1o4, y2o4, y3o4⟩ := hXo4
  have hXc0 : BoxC _ _ _ _ _ _ _ _ _ _ := ⟨y0c0, y1c0, y2c0, y3c0⟩
  clear y0c0 y1c0 y2c0 y3c0
  have hXo4 : BoxC _ _ _ _ _ _ _ _ _ _ := ⟨y0o4, y1o4, y2o4, y3o4⟩
  clear y0o4 y1o4 y2o4 y3o4
  refine (toIntS_any _ _ _ _ _ ((hI1.below hB8 (Nat.le_refl _)).up hB8.size)).mono ?_
  rintro e w9 ⟨bo5, no5, co5, rfl, ho5, hb9⟩
  have hB9 := hB8.trans (hb9.mono hB8.size)
  have hZ9 := hb9.size
  replace ho0 := ho0.below hb9 (Nat.le_refl _)
  replace ho1 := ho1.below hb9 (Nat.le_refl _)
  replace ho2 := ho2.below hb9 (Nat.le_refl _)
  replace ho3 := ho3.below hb9 (Nat.le_refl _)
  replace ho4 := ho4.below hb9 (Nat.le_refl _)
  replace hXc0 := hXc0.below hb9 (by omega)
  replace hXo4 := hXo4.below hb9 (by omega)
  have hro5 := ho5.rowLt
  have hLo5 := ho5.le
  obtain ⟨y0c0, y1c0, y2c0, y3c0⟩ := hXc0
  obtain ⟨y0o4, y1o4, y2o4, y3o4⟩ := hXo4
  go_wp2_with fail
  have hXc0 : BoxC _ _ _ _ _ _ _ _ _ _ := ⟨y0c0, y1c0, y2c0, y3c0⟩
  clear y0c0 y1c0 y2c0 y3c0
  have hXo4 : BoxC _ _ _ _ _ _ _ _ _ _ := ⟨y0o4, y1o4, y2o4, y3o4⟩
  clear y0o4 y1o4 y2o4 y3o4
  refine (toIntS_any _ _ _ _ _ ((hI2.below hB9 (Nat.le_refl _)).up hB9.size)).mono ?_
  rintro e w10 ⟨bo6, no6, co6, rfl, ho6, hb10⟩
  have hB10 := hB9.trans (hb10.mono hB9.size)
  have hZ10 := hb10.size
  replace ho0 := ho0.below hb10 (Nat.le_refl _)
  replace ho1 := ho1.below hb10 (Nat.le_refl _)
  replace ho2 := ho2.below hb10 (Nat.le_refl _)
  replace ho3 := ho3.below hb10 (Nat.le_refl _)
  replace ho4 := ho4.below hb10 (Nat.le_refl _)
  replace ho5 := ho5.below hb10 (Nat.le_refl _)
  replace hXc0 := hXc0.below hb10 (by omega)
  replace hXo4 := hXo4.below hb10 (by omega)
  have hro6 := ho6.rowLt
  have hLo6 := ho6.le
  obtain ⟨y0c0, y1c0, y2c0, y3c0⟩ := hXc0
  obtain ⟨y0o4, y1o4, y2o4, y3o4⟩ := hXo4
  go_wp2_with fail
  have hXc0 : BoxC _ _ _ _ _ _ _ _ _ _ := ⟨y0c0, y1c0, y2c0, y3c0⟩
  clear y0c0 y1c0 y2c0 y3c0
  have hXo4 : BoxC _ _ _ _ _ _ _ _ _ _ := ⟨y0o4, y1o4, y2o4, y3o4⟩
  clear y0o4 y1o4 y2o4 y3o4
  refine (impl_EvalCircuit_any _ _ _ _ _ _ _ _ _ _ _ _ _ _ _ _ _ _ _ ho4.1.flat ho4.2.1.ints ho5.ints ho6.ints).mono ?_
  rintro e w11 ⟨bo7, no7, co7, rfl, ho7, hb11⟩
  rw [← HANS.out]
  rw [← HANS.out] at ho7
  have hB11 := hB10.trans (hb11.mono hB10.size)
  have hZ11 := hb11.size
  replace ho0 := ho0.below hb11 (Nat.le_refl _)
  replace ho1 := ho1.below hb11 (Nat.le_refl _)
  replace ho2 := ho2.below hb11 (Nat.le_refl _)
  replace ho3 := ho3.below hb11 (Nat.le_refl _)
  replace ho4 := ho4.below hb11 (Nat.le_refl _)
  replace ho5 := ho5.below hb11 (Nat.le_refl _)
  replace ho6 := ho6.below hb11 (Nat.le_refl _)
  replace hXc0 := hXc0.below hb11 (by omega)
  replace hXo4 := hXo4.below hb11 (by omega)
  have hro7 := ho7.rowLt
  have hLo7 := ho7.le
  obtain ⟨y0c0, y1c0, y2c0, y3c0⟩ := hXc0
  obtain ⟨y0o4, y1o4, y2o4, y3o4⟩ := hXo4
  go_wp2_with fail
  have hXc0 : BoxC _ _ _ _ _ _ _ _ _ _ := ⟨y0c0, y1c0, y2c0, y3c0⟩
  clear y0c0 y1c0 y2c0 y3c0
  have hXo4 : BoxC _ _ _ _ _ _ _ _ _ _ := ⟨y0o4, y1o4, y2o4, y3o4⟩
  clear y0o4 y1o4 y2o4 y3o4
  refine (eqIntS_any _ _ _ _ _ _ _ _ _ _ _ ho7.ints ho3.ints (Nat.le_refl _) (Nat.le_refl _)).mono ?_
  rintro e w12 ⟨rfl, hb12⟩
  rw [eqB_self]
  have hB12 := hB11.trans (hb12.mono hB11.size)
  have hZ12 := hb12.size
  replace ho0 := ho0.below hb12 (Nat.le_refl _)
  replace ho1 := ho1.below hb12 (Nat.le_refl _)
  replace ho2 := ho2.below hb12 (Nat.le_refl _)
  replace ho3 := ho3.below hb12 (Nat.le_refl _)
  replace ho4 := ho4.below hb12 (Nat.le_refl _)
  replace ho5 := ho5.below hb12 (Nat.le_refl _)
  replace ho6 := ho6.below hb12 (Nat.le_refl _)
  replace ho7 := ho7.below hb12 (Nat.le_refl _)
  replace hXc0 := hXc0.below hb12 (by omega)
  replace hXo4 := hXo4.below hb12 (by omega)
  obtain ⟨y0c0, y1c0, y2c0, y3c0⟩ := hXc0
  obtain ⟨y0o4, y1o4, y2o4, y3o4⟩ := hXo4
  go_wp2_with fail
  have hXc0 : BoxC _ _ _ _ _ _ _ _ _ _ := ⟨y0c0, y1c0, y2c0, y3c0⟩
  clear y0c0 y1c0 y2c0 y3c0
  have hXo4 : BoxC _ _ _ _ _ _ _ _ _ _ := ⟨y0o4, y1o4, y2o4, y3o4⟩
  clear y0o4 y1o4 y2o4 y3o4
  have hS12 : ∀ W, Below w12.heap.size w12 W → W.cell? ⟨w7.heap.size, 0, none⟩ = some (.int .i64 i0_0) ∧ W.cell? ⟨w7.heap.size, 1, none⟩ = some (.int .i64 i0_1) ∧ W.cell? ⟨w7.heap.size, 2, none⟩ = some (.slice gao4 gno4 gco4) ∧ W.cell? ⟨w7.heap.size, 3, none⟩ = some (.slice oao4 ono4 oco4) ∧ W.cell? ⟨w0.heap.size, 0, none⟩ = some (.int .i64 i0_0) ∧ W.cell? ⟨w0.heap.size, 1, none⟩ = some (.int .i64 i0_1) ∧ W.cell? ⟨w0.heap.size, 2, none⟩ = some (.slice ga0 gn0 gc0) ∧ W.cell? ⟨w0.heap.size, 3, none⟩ = some (.slice oa0 on0 oc0) ∧ Below w12.heap.size w12 W := fun W h => by
    have hx := hXo4.below h (by omega)
    have hc := hXc0.below h (by omega)
    exact ⟨hx.1, hx.2.1, hx.2.2.1, hx.2.2.2, hc.1, hc.2.1, hc.2.2.1, hc.2.2.2, h⟩
  have hT12 : ∀ W W', (W.cell? ⟨w7.heap.size, 0, none⟩ = some (.int .i64 i0_0) ∧ W.cell? ⟨w7.heap.size, 1, none⟩ = some (.int .i64 i0_1) ∧ W.cell? ⟨w7.heap.size, 2, none⟩ = some (.slice gao4 gno4 gco4) ∧ W.cell? ⟨w7.heap.size, 3, none⟩ = some (.slice oao4 ono4 oco4) ∧ W.cell? ⟨w0.heap.size, 0, none⟩ = some (.int .i64 i0_0) ∧ W.cell? ⟨w0.heap.size, 1, none⟩ = some (.int .i64 i0_1) ∧ W.cell? ⟨w0.heap.size, 2, none⟩ = some (.slice ga0 gn0 gc0) ∧ W.cell? ⟨w0.heap.size, 3, none⟩ = some (.slice oa0 on0 oc0) ∧ Below w12.heap.size w12 W) → Below W.heap.size W W' → _ := fun W W' h hb => hS12 W' (h.2.2.2.2.2.2.2.2.trans (hb.mono h.2.2.2.2.2.2.2.2.size))
  have HS12 := Lib.hid hS12
  have HT12 := Lib.hid hT12
  clear hS12 hT12
  have HF12 := Lib.hid (show ∀ W, Below w12.heap.size w12 W → (Flat 3 W W.heap.size gao4 gno4 gs0 ∧ Ints W W.heap.size oao4 ono4 os0) from fun W h => ⟨(ho4.1.flat.below h (Nat.le_refl _)).up h.size, (ho4.2.1.ints.below h (Nat.le_refl _)).up h.size⟩)
  have HG12 := Lib.hid (show ∀ W, Below w12.heap.size w12 W → (Flat 3 W W.heap.size ga0 gn0 gs0 ∧ Ints W W.heap.size oa0 on0 os0) from fun W h => ⟨(hFG0.below (hB12.trans (h.mono hB12.size)) (Nat.le_refl _)).up (hB12.trans (h.mono hB12.size)).size, (hFO0.below (hB12.trans (h.mono hB12.size)) (Nat.le_refl _)).up (hB12.trans (h.mono hB12.size)).size⟩)
  obtain ⟨y0o4, y1o4, y2o4, y3o4⟩ := hXo4
  obtain ⟨y0c0, y1c0, y2c0, y3c0⟩ := hXc0
  go_region_held3 (fun w' => w'.cell? ⟨w7.heap.size, 0, none⟩ = some (.int .i64 i0_0) ∧ w'.cell? ⟨w7.heap.size, 1, none⟩ = some (.int .i64 i0_1) ∧ w'.cell? ⟨w7.heap.size, 2, none⟩ = some (.slice gao4 gno4 gco4) ∧ w'.cell? ⟨w7.heap.size, 3, none⟩ = some (.slice oao4 ono4 oco4) ∧ w'.cell? ⟨w0.heap.size, 0, none⟩ = some (.int .i64 i0_0) ∧ w'.cell? ⟨w0.heap.size, 1, none⟩ = some (.int .i64 i0_1) ∧ w'.cell? ⟨w0.heap.size, 2, none⟩ = some (.slice ga0 gn0 gc0) ∧ w'.cell? ⟨w0.heap.size, 3, none⟩ = some (.slice oa0 on0 oc0) ∧ Below w12.heap.size w12 w') (first | exact HS12.out _ (bdrewN (Below.refl _ _) 1) | exact HT12.out _ _ (by assumption) hb13 | exact HT12.out _ _ (by assumption) hb14)
    (first | (go_at_call 17; refine (toCircuit_any _ _ _ _ _ _ _ _ _ _ _ (HG12.out _ (And.right (And.right (And.right (And.right (And.right (And.right (And.right (And.right (by assumption)))))))))).1 (HG12.out _ (And.right (And.right (And.right (And.right (And.right (And.right (And.right (And.right (by assumption)))))))))).2).mono ?_; rintro e w13 ⟨gao8, gno8, gco8, oao8, ono8, oco8, rfl, ho8, hb13⟩) | (go_at_call 19; refine (eqCircuit_any _ _ _ _ _ _ _ _ _ _ _ _ _ _ _ _ _ _ _ _ _ (HF12.out _ (And.right (And.right (And.right (And.right (And.right (And.right (And.right (And.right (by assumption)))))))))).1 (HF12.out _ (And.right (And.right (And.right (And.right (And.right (And.right (And.right (And.right (by assumption)))))))))).2 ho8.1.flat ho8.2.1.ints).mono ?_; rintro e w14 ⟨rfl, hb14⟩; rw [eqCB_self]))
  rename_i hH12
  have hXo4 : BoxC _ _ _ _ _ _ _ _ _ _ := ⟨y0o4, y1o4, y2o4, y3o4⟩
  clear y0o4 y1o4 y2o4 y3o4
  have hXc0 : BoxC _ _ _ _ _ _ _ _ _ _ := ⟨y0c0, y1c0, y2c0, y3c0⟩
  clear y0c0 y1c0 y2c0 y3c0
  replace hb14 := hH12.2.2.2.2.2.2.2.2
  clear hH12
  have hB14 := hB12.trans (hb14.mono hB12.size)
  have hZ14 := hb14.size
  replace ho0 := ho0.below hb14 (Nat.le_refl _)
  replace ho1 := ho1.below hb14 (Nat.le_refl _)
  replace ho2 := ho2.below hb14 (Nat.le_refl _)
  replace ho3 := ho3.below hb14 (Nat.le_refl _)
  replace ho4 := ho4.below hb14 (Nat.le_refl _)
  replace ho5 := ho5.below hb14 (Nat.le_refl _)
  replace ho6 := ho6.below hb14 (Nat.le_refl _)
  replace ho7 := ho7.below hb14 (Nat.le_refl _)
  replace hXc0 := hXc0.below hb14 (by omega)
  replace hXo4 := hXo4.below hb14 (by omega)
  obtain ⟨y0c0, y1c0, y2c0, y3c0⟩ := hXc0
  obtain ⟨y0o4, y1o4, y2o4, y3o4⟩ := hXo4
  go_wp2_with fail
  have hXc0 : BoxC _ _ _ _ _ _ _ _ _ _ := ⟨y0c0, y1c0, y2c0, y3c0⟩
  clear y0c0 y1c0 y2c0 y3c0
  have hXo4 : BoxC _ _ _ _ _ _ _ _ _ _ := ⟨y0o4, y1o4, y2o4, y3o4⟩
  clear y0o4 y1o4 y2o4 y3o4
  refine (toIntS_any _ _ _ _ _ ((hI1.below hB14 (Nat.le_refl _)).up hB14.size)).mono ?_
  rintro e w15 ⟨bo9, no9, co9, rfl, ho9, hb15⟩
  have hB15 := hB14.trans (hb15.mono hB14.size)
  have hZ15 := hb15.size
  replace ho0 := ho0.below hb15 (Nat.le_refl _)
  replace ho1 := ho1.below hb15 (Nat.le_refl _)
  replace ho2 := ho2.below hb15 (Nat.le_refl _)
  replace ho3 := ho3.below hb15 (Nat.le_refl _)
  replace ho4 := ho4.below hb15 (Nat.le_refl _)
  replace ho5 := ho5.below hb15 (Nat.le_refl _)
  replace ho6 := ho6.below hb15 (Nat.le_refl _)
  replace ho7 := ho7.below hb15 (Nat.le_refl _)
  replace hXc0 := hXc0.below hb15 (by omega)
  replace hXo4 := hXo4.below hb15 (by omega)
  have hro9 := ho9.rowLt
  have hLo9 := ho9.le
  obtain ⟨y0c0, y1c0, y2c0, y3c0⟩ := hXc0
  obtain ⟨y0o4, y1o4, y2o4, y3o4⟩ := hXo4
  go_wp2_with fail
  have hXc0 : BoxC _ _ _ _ _ _ _ _ _ _ := ⟨y0c0, y1c0, y2c0, y3c0⟩
  clear y0c0 y1c0 y2c0 y3c0
  have hXo4 : BoxC _ _ _ _ _ _ _ _ _ _ := ⟨y0o4, y1o4, y2o4, y3o4⟩
  clear y0o4 y1o4 y2o4 y3o4
  refine (eqIntS_any _ _ _ _ _ _ _ _ _ _ _ ho5.ints ho9.ints (Nat.le_refl _) (Nat.le_refl _)).mono ?_
  rintro e w16 ⟨rfl, hb16⟩
  rw [eqB_self]
  have hB16 := hB15.trans (hb16.mono hB15.size)
  have hZ16 := hb16.size
  replace ho0 := ho0.below hb16 (Nat.le_refl _)
  replace ho1 := ho1.below hb16 (Nat.le_refl _)
  replace ho2 := ho2.below hb16 (Nat.le_refl _)
  replace ho3 := ho3.below hb16 (Nat.le_refl _)
  replace ho4 := ho4.below hb16 (Nat.le_refl _)
  replace ho5 := ho5.below hb16 (Nat.le_refl _)
  replace ho6 := ho6.below hb16 (Nat.le_refl _)
  replace ho7 := ho7.below hb16 (Nat.le_refl _)
  replace ho9 := ho9.below hb16 (Nat.le_refl _)
  replace hXc0 := hXc0.below hb16 (by omega)
  replace hXo4 := hXo4.below hb16 (by omega)
  obtain ⟨y0c0, y1c0, y2c0, y3c0⟩ := hXc0
  obtain ⟨y0o4, y1o4, y2o4, y3o4⟩ := hXo4
  go_wp2_with fail
  have hXc0 : BoxC _ _ _ _ _ _ _ _ _ _ := ⟨y0c0, y1c0, y2c0, y3c0⟩
  clear y0c0 y1c0 y2c0 y3c0
  have hXo4 : BoxC _ _ _ _ _ _ _ _ _ _ := ⟨y0o4, y1o4, y2o4, y3o4⟩
  clear y0o4 y1o4 y2o4 y3o4
  refine (toIntS_any _ _ _ _ _ ((hI2.below hB16 (Nat.le_refl _)).up hB16.size)).mono ?_
  rintro e w17 ⟨bo10, no10, co10, rfl, ho10, hb17⟩
  have hB17 := hB16.trans (hb17.mono hB16.size)
  have hZ17 := hb17.size
  replace ho0 := ho0.below hb17 (Nat.le_refl _)
  replace ho1 := ho1.below hb17 (Nat.le_refl _)
  replace ho2 := ho2.below hb17 (Nat.le_refl _)
  replace ho3 := ho3.below hb17 (Nat.le_refl _)
  replace ho4 := ho4.below hb17 (Nat.le_refl _)
  replace ho5 := ho5.below hb17 (Nat.le_refl _)
  replace ho6 := ho6.below hb17 (Nat.le_refl _)
  replace ho7 := ho7.below hb17 (Nat.le_refl _)
  replace ho9 := ho9.below hb17 (Nat.le_refl _)
  replace hXc0 := hXc0.below hb17 (by omega)
  replace hXo4 := hXo4.below hb17 (by omega)
  have hro10 := ho10.rowLt
  have hLo10 := ho10.le
  obtain ⟨y0c0, y1c0, y2c0, y3c0⟩ := hXc0
  obtain ⟨y0o4, y1o4, y2o4, y3o4⟩ := hXo4
  go_wp2_with fail
  have hXc0 : BoxC _ _ _ _ _ _ _ _ _ _ := ⟨y0c0, y1c0, y2c0, y3c0⟩
  clear y0c0 y1c0 y2c0 y3c0
  have hXo4 : BoxC _ _ _ _ _ _ _ _ _ _ := ⟨y0o4, y1o4, y2o4, y3o4⟩
  clear y0o4 y1o4 y2o4 y3o4
  refine (eqIntS_any _ _ _ _ _ _ _ _ _ _ _ ho6.ints ho10.ints (Nat.le_refl _) (Nat.le_refl _)).mono ?_
  rintro e w18 ⟨rfl, hb18⟩
  rw [eqB_self]
  have hB18 := hB17.trans (hb18.mono hB17.size)
  have hZ18 := hb18.size
  replace ho0 := ho0.below hb18 (Nat.le_refl _)
  replace ho1 := ho1.below hb18 (Nat.le_refl _)
  replace ho2 := ho2.below hb18 (Nat.le_refl _)
  replace ho3 := ho3.below hb18 (Nat.le_refl _)
  replace ho4 := ho4.below hb18 (Nat.le_refl _)
  replace ho5 := ho5.below hb18 (Nat.le_refl _)
  replace ho6 := ho6.below hb18 (Nat.le_refl _)
  replace ho7 := ho7.below hb18 (Nat.le_refl _)
  replace ho9 := ho9.below hb18 (Nat.le_refl _)
  replace ho10 := ho10.below hb18 (Nat.le_refl _)
  replace hXc0 := hXc0.below hb18 (by omega)
  replace hXo4 := hXo4.below hb18 (by omega)
  obtain ⟨y0c0, y1c0, y2c0, y3c0⟩ := hXc0
  obtain ⟨y0o4, y1o4, y2o4, y3o4⟩ := hXo4
  go_wp2_with fail
  have hXc0 : BoxC _ _ _ _ _ _ _ _ _ _ := ⟨y0c0, y1c0, y2c0, y3c0⟩
  clear y0c0 y1c0 y2c0 y3c0
  have hXo4 : BoxC _ _ _ _ _ _ _ _ _ _ := ⟨y0o4, y1o4, y2o4, y3o4⟩
  clear y0o4 y1o4 y2o4 y3o4
  refine (markCircuit_any _ _ _ _ _ _ _ _ _ _ _ _ _ ho4 (by omega) (by omega) (by omega)).mono ?_
  rintro e w19 ⟨rfl, hm19, u19, hg19, hk19⟩
  have hC19 : Below w0.heap.size w0 u19 := hB18.grown hg19 hB18.size (fun k hk => by have := hro4 k hk; omega)
  have hB19 : Below w0.heap.size w0 w19 := hC19.grown hk19 hC19.size (fun k hk => by have := hpo4 k hk; omega)
  have hZ19 := Nat.le_trans hg19.size hk19.size
  have hY19 := hg19.size
  have hV19 := hk19.size
  replace ho0 := ho0.other hg19 (fun k l h1 h2 => by have := hro0 k h1; have := hro4 l h2; omega) (fun k l h1 h2 => by have := hpo0 k h1; have := hro4 l h2; omega)
  replace ho1 := ho1.other hg19 (fun k l h1 h2 => by have := hro1 k h1; have := hro4 l h2; omega)
  replace ho2 := ho2.other hg19 (fun k l h1 h2 => by have := hro2 k h1; have := hro4 l h2; omega)
  replace ho3 := ho3.other hg19 (fun k l h1 h2 => by have := hro3 k h1; have := hro4 l h2; omega)
  replace ho5 := ho5.other hg19 (fun k l h1 h2 => by have := hro5 k h1; have := hro4 l h2; omega)
  replace ho6 := ho6.other hg19 (fun k l h1 h2 => by have := hro6 k h1; have := hro4 l h2; omega)
  replace ho7 := ho7.other hg19 (fun k l h1 h2 => by have := hro7 k h1; have := hro4 l h2; omega)
  replace ho9 := ho9.other hg19 (fun k l h1 h2 => by have := hro9 k h1; have := hro4 l h2; omega)
  replace ho10 := ho10.other hg19 (fun k l h1 h2 => by have := hro10 k h1; have := hro4 l h2; omega)
  replace hXc0 := hXc0.other hg19 (by omega) (fun l h2 => by have := hro4 l h2; omega)
  replace hXo4 := hXo4.other hg19 (by omega) (fun l h2 => by have := hro4 l h2; omega)
  replace ho0 := ho0.other hk19 (fun k l h1 h2 => by have := hro0 k h1; have := hpo4 l h2; omega) (fun k l h1 h2 => by have := hpo0 k h1; have := hpo4 l h2; omega)
  replace ho1 := ho1.other hk19 (fun k l h1 h2 => by have := hro1 k h1; have := hpo4 l h2; omega)
  replace ho2 := ho2.other hk19 (fun k l h1 h2 => by have := hro2 k h1; have := hpo4 l h2; omega)
  replace ho3 := ho3.other hk19 (fun k l h1 h2 => by have := hro3 k h1; have := hpo4 l h2; omega)
  replace ho5 := ho5.other hk19 (fun k l h1 h2 => by have := hro5 k h1; have := hpo4 l h2; omega)
  replace ho6 := ho6.other hk19 (fun k l h1 h2 => by have := hro6 k h1; have := hpo4 l h2; omega)
  replace ho7 := ho7.other hk19 (fun k l h1 h2 => by have := hro7 k h1; have := hpo4 l h2; omega)
  replace ho9 := ho9.other hk19 (fun k l h1 h2 => by have := hro9 k h1; have := hpo4 l h2; omega)
  replace ho10 := ho10.other hk19 (fun k l h1 h2 => by have := hro10 k h1; have := hpo4 l h2; omega)
  replace hXc0 := hXc0.other hk19 (by omega) (fun l h2 => by have := hpo4 l h2; omega)
  replace hXo4 := hXo4.other hk19 (by omega) (fun l h2 => by have := hpo4 l h2; omega)
  replace ho4 := hm19
  clear hm19
  obtain ⟨y0c0, y1c0, y2c0, y3c0⟩ := hXc0
  obtain ⟨y0o4, y1o4, y2o4, y3o4⟩ := hXo4
  go_wp2_with fail
  have hXc0 : BoxC _ _ _ _ _ _ _ _ _ _ := ⟨y0c0, y1c0, y2c0, y3c0⟩
  clear y0c0 y1c0 y2c0 y3c0
  have hXo4 : BoxC _ _ _ _ _ _ _ _ _ _ := ⟨y0o4, y1o4, y2o4, y3o4⟩
  clear y0o4 y1o4 y2o4 y3o4
  refine (markIntS_any _ _ _ _ _ _ _ ho5 (by omega) (by omega)).mono ?_
  rintro e w20 ⟨rfl, hm20, hg20⟩
  have hB20 : Below w0.heap.size w0 w20 := hB19.grown hg20 hB19.size (fun k hk => by have := hro5 k hk; omega)
  have hZ20 := hg20.size
  replace ho0 := ho0.other hg20 (fun k l h1 h2 => by have := hro0 k h1; have := hro5 l h2; omega) (fun k l h1 h2 => by have := hpo0 k h1; have := hro5 l h2; omega)
  replace ho1 := ho1.other hg20 (fun k l h1 h2 => by have := hro1 k h1; have := hro5 l h2; omega)
  replace ho2 := ho2.other hg20 (fun k l h1 h2 => by have := hro2 k h1; have := hro5 l h2; omega)
  replace ho3 := ho3.other hg20 (fun k l h1 h2 => by have := hro3 k h1; have := hro5 l h2; omega)
  replace ho4 := ho4.other hg20 (fun k l h1 h2 => by have := hro4 k h1; have := hro5 l h2; omega) (fun k l h1 h2 => by have := hpo4 k h1; have := hro5 l h2; omega)
  replace ho6 := ho6.other hg20 (fun k l h1 h2 => by have := hro6 k h1; have := hro5 l h2; omega)
  replace ho7 := ho7.other hg20 (fun k l h1 h2 => by have := hro7 k h1; have := hro5 l h2; omega)
  replace ho9 := ho9.other hg20 (fun k l h1 h2 => by have := hro9 k h1; have := hro5 l h2; omega)
  replace ho10 := ho10.other hg20 (fun k l h1 h2 => by have := hro10 k h1; have := hro5 l h2; omega)
  replace hXc0 := hXc0.other hg20 (by omega) (fun l h2 => by have := hro5 l h2; omega)
  replace hXo4 := hXo4.other hg20 (by omega) (fun l h2 => by have := hro5 l h2; omega)
  replace ho5 := hm20
  clear hm20
  obtain ⟨y0c0, y1c0, y2c0, y3c0⟩ := hXc0
  obtain ⟨y0o4, y1o4, y2o4, y3o4⟩ := hXo4
  go_wp2_with fail
  have hXc0 : BoxC _ _ _ _ _ _ _ _ _ _ := ⟨y0c0, y1c0, y2c0, y3c0⟩
  clear y0c0 y1c0 y2c0 y3c0
  have hXo4 : BoxC _ _ _ _ _ _ _ _ _ _ := ⟨y0o4, y1o4, y2o4, y3o4⟩
  clear y0o4 y1o4 y2o4 y3o4
  refine (markIntS_any _ _ _ _ _ _ _ ho6 (by omega) (by omega)).mono ?_
  rintro e w21 ⟨rfl, hm21, hg21⟩
  have hB21 : Below w0.heap.size w0 w21 := hB20.grown hg21 hB20.size (fun k hk => by have := hro6 k hk; omega)
  have hZ21 := hg21.size
  replace ho0 := ho0.other hg21 (fun k l h1 h2 => by have := hro0 k h1; have := hro6 l h2; omega) (fun k l h1 h2 => by have := hpo0 k h1; have := hro6 l h2; omega)
  replace ho1 := ho1.other hg21 (fun k l h1 h2 => by have := hro1 k h1; have := hro6 l h2; omega)
  replace ho2 := ho2.other hg21 (fun k l h1 h2 => by have := hro2 k h1; have := hro6 l h2; omega)
  replace ho3 := ho3.other hg21 (fun k l h1 h2 => by have := hro3 k h1; have := hro6 l h2; omega)
  replace ho4 := ho4.other hg21 (fun k l h1 h2 => by have := hro4 k h1; have := hro6 l h2; omega) (fun k l h1 h2 => by have := hpo4 k h1; have := hro6 l h2; omega)
  replace ho5 := ho5.other hg21 (fun k l h1 h2 => by have := hro5 k h1; have := hro6 l h2; omega)
  replace ho7 := ho7.other hg21 (fun k l h1 h2 => by have := hro7 k h1; have := hro6 l h2; omega)
  replace ho9 := ho9.other hg21 (fun k l h1 h2 => by have := hro9 k h1; have := hro6 l h2; omega)
  replace ho10 := ho10.other hg21 (fun k l h1 h2 => by have := hro10 k h1; have := hro6 l h2; omega)
  replace hXc0 := hXc0.other hg21 (by omega) (fun l h2 => by have := hro6 l h2; omega)
  replace hXo4 := hXo4.other hg21 (by omega) (fun l h2 => by have := hro6 l h2; omega)
  replace ho6 := hm21
  clear hm21
  obtain ⟨y0c0, y1c0, y2c0, y3c0⟩ := hXc0
  obtain ⟨y0o4, y1o4, y2o4, y3o4⟩ := hXo4
  go_wp2_with fail
  have hXc0 : BoxC _ _ _ _ _ _ _ _ _ _ := ⟨y0c0, y1c0, y2c0, y3c0⟩
  clear y0c0 y1c0 y2c0 y3c0
  have hXo4 : BoxC _ _ _ _ _ _ _ _ _ _ := ⟨y0o4, y1o4, y2o4, y3o4⟩
  clear y0o4 y1o4 y2o4 y3o4
  refine (eqIntS_any _ _ _ _ _ _ _ _ _ _ _ ho7.ints ho3.ints (Nat.le_refl _) (Nat.le_refl _)).mono ?_
  rintro e w22 ⟨rfl, hb22⟩
  rw [eqB_self]
  have hB22 := hB21.trans (hb22.mono hB21.size)
  have hZ22 := hb22.size
  replace ho0 := ho0.below hb22 (Nat.le_refl _)
  replace ho1 := ho1.below hb22 (Nat.le_refl _)
  replace ho2 := ho2.below hb22 (Nat.le_refl _)
  replace ho3 := ho3.below hb22 (Nat.le_refl _)
  replace ho4 := ho4.below hb22 (Nat.le_refl _)
  replace ho5 := ho5.below hb22 (Nat.le_refl _)
  replace ho6 := ho6.below hb22 (Nat.le_refl _)
  replace ho7 := ho7.below hb22 (Nat.le_refl _)
  replace ho9 := ho9.below hb22 (Nat.le_refl _)
  replace ho10 := ho10.below hb22 (Nat.le_refl _)
  replace hXc0 := hXc0.below hb22 (by omega)
  replace hXo4 := hXo4.below hb22 (by omega)
  obtain ⟨y0c0, y1c0, y2c0, y3c0⟩ := hXc0
  obtain ⟨y0o4, y1o4, y2o4, y3o4⟩ := hXo4
  go_wp2_with fail
  have hXc0 : BoxC _ _ _ _ _ _ _ _ _ _ := ⟨y0c0, y1c0, y2c0, y3c0⟩
  clear y0c0 y1c0 y2c0 y3c0
  have hXo4 : BoxC _ _ _ _ _ _ _ _ _ _ := ⟨y0o4, y1o4, y2o4, y3o4⟩
  clear y0o4 y1o4 y2o4 y3o4
  refine (markIntS_any _ _ _ _ _ 1 _ ho7 (by omega) (by omega)).mono ?_
  rintro e w23 ⟨rfl, hm23, hg23⟩
  have hB23 : Below w0.heap.size w0 w23 := hB22.grown hg23 hB22.size (fun k hk => by have := hro7 k hk; omega)
  have hZ23 := hg23.size
  replace ho0 := ho0.other hg23 (fun k l h1 h2 => by have := hro0 k h1; have := hro7 l h2; omega) (fun k l h1 h2 => by have := hpo0 k h1; have := hro7 l h2; omega)
  replace ho1 := ho1.other hg23 (fun k l h1 h2 => by have := hro1 k h1; have := hro7 l h2; omega)
  replace ho2 := ho2.other hg23 (fun k l h1 h2 => by have := hro2 k h1; have := hro7 l h2; omega)
  replace ho3 := ho3.other hg23 (fun k l h1 h2 => by have := hro3 k h1; have := hro7 l h2; omega)
  replace ho4 := ho4.other hg23 (fun k l h1 h2 => by have := hro4 k h1; have := hro7 l h2; omega) (fun k l h1 h2 => by have := hpo4 k h1; have := hro7 l h2; omega)
  replace ho5 := ho5.other hg23 (fun k l h1 h2 => by have := hro5 k h1; have := hro7 l h2; omega)
  replace ho6 := ho6.other hg23 (fun k l h1 h2 => by have := hro6 k h1; have := hro7 l h2; omega)
  replace ho9 := ho9.other hg23 (fun k l h1 h2 => by have := hro9 k h1; have := hro7 l h2; omega)
  replace ho10 := ho10.other hg23 (fun k l h1 h2 => by have := hro10 k h1; have := hro7 l h2; omega)
  replace hXc0 := hXc0.other hg23 (by omega) (fun l h2 => by have := hro7 l h2; omega)
  replace hXo4 := hXo4.other hg23 (by omega) (fun l h2 => by have := hro7 l h2; omega)
  replace ho7 := hm23
  clear hm23
  obtain ⟨y0c0, y1c0, y2c0, y3c0⟩ := hXc0
  obtain ⟨y0o4, y1o4, y2o4, y3o4⟩ := hXo4
  go_wp2_with fail
  have hXc0 : BoxC _ _ _ _ _ _ _ _ _ _ := ⟨y0c0, y1c0, y2c0, y3c0⟩
  clear y0c0 y1c0 y2c0 y3c0
  have hXo4 : BoxC _ _ _ _ _ _ _ _ _ _ := ⟨y0o4, y1o4, y2o4, y3o4⟩
  clear y0o4 y1o4 y2o4 y3o4
  refine (heldIntS_any _ _ _ _ _ _ _ ho7.ints (by omega) (by omega) (marks_held _ _)).mono ?_
  rintro e w' ⟨rfl, rfl⟩
  obtain ⟨y0c0, y1c0, y2c0, y3c0⟩ := hXc0
  obtain ⟨y0o4, y1o4, y2o4, y3o4⟩ := hXo4
  go_wp2_with fail
  have hXc0 : BoxC _ _ _ _ _ _ _ _ _ _ := ⟨y0c0, y1c0, y2c0, y3c0⟩
  clear y0c0 y1c0 y2c0 y3c0
  have hXo4 : BoxC _ _ _ _ _ _ _ _ _ _ := ⟨y0o4, y1o4, y2o4, y3o4⟩
  clear y0o4 y1o4 y2o4 y3o4
  refine (toCircuit_any _ _ _ _ _ _ _ _ _ _ _ ((hFG0.below hB23 (Nat.le_refl _)).up hB23.size) ((hFO0.below hB23 (Nat.le_refl _)).up hB23.size)).mono ?_
  rintro e w24 ⟨gao11, gno11, gco11, oao11, ono11, oco11, rfl, ho11, hb24⟩
  unfold circV
  have hB24 := hB23.trans (hb24.mono hB23.size)
  have hZ24 := hb24.size
  replace ho0 := ho0.below hb24 (Nat.le_refl _)
  replace ho1 := ho1.below hb24 (Nat.le_refl _)
  replace ho2 := ho2.below hb24 (Nat.le_refl _)
  replace ho3 := ho3.below hb24 (Nat.le_refl _)
  replace ho4 := ho4.below hb24 (Nat.le_refl _)
  replace ho5 := ho5.below hb24 (Nat.le_refl _)
  replace ho6 := ho6.below hb24 (Nat.le_refl _)
  replace ho7 := ho7.below hb24 (Nat.le_refl _)
  replace ho9 := ho9.below hb24 (Nat.le_refl _)
  replace ho10 := ho10.below hb24 (Nat.le_refl _)
  replace hXc0 := hXc0.below hb24 (by omega)
  replace hXo4 := hXo4.below hb24 (by omega)
  have hro11 := ho11.1.rowLt
  have hpo11 := ho11.2.1.rowLt
  have hLo11 := ho11.1.le
  have hMo11 := ho11.2.1.le
  obtain ⟨y0c0, y1c0, y2c0, y3c0⟩ := hXc0
  obtain ⟨y0o4, y1o4, y2o4, y3o4⟩ := hXo4
  go_wp2_with fail
  have hXc0 : BoxC _ _ _ _ _ _ _ _ _ _ := ⟨y0c0, y1c0, y2c0, y3c0⟩
  clear y0c0 y1c0 y2c0 y3c0
  have hXo4 : BoxC _ _ _ _ _ _ _ _ _ _ := ⟨y0o4, y1o4, y2o4, y3o4⟩
  clear y0o4 y1o4 y2o4 y3o4
  refine (toIntS_any _ _ _ _ _ ((hI1.below hB24 (Nat.le_refl _)).up hB24.size)).mono ?_
  rintro e w25 ⟨bo12, no12, co12, rfl, ho12, hb25⟩
  have hB25 := hB24.trans (hb25.mono hB24.size)
  have hZ25 := hb25.size
  replace ho0 := ho0.below hb25 (Nat.le_refl _)
  replace ho1 := ho1.below hb25 (Nat.le_refl _)
  replace ho2 := ho2.below hb25 (Nat.le_refl _)
  replace ho3 := ho3.below hb25 (Nat.le_refl _)
  replace ho4 := ho4.below hb25 (Nat.le_refl _)
  replace ho5 := ho5.below hb25 (Nat.le_refl _)
  replace ho6 := ho6.below hb25 (Nat.le_refl _)
  replace ho7 := ho7.below hb25 (Nat.le_refl _)
  replace ho9 := ho9.below hb25 (Nat.le_refl _)
  replace ho10 := ho10.below hb25 (Nat.le_refl _)
  replace ho11 := ho11.below hb25 (Nat.le_refl _)
  replace hXc0 := hXc0.below hb25 (by omega)
  replace hXo4 := hXo4.below hb25 (by omega)
  have hro12 := ho12.rowLt
  have hLo12 := ho12.le
  obtain ⟨y0c0, y1c0, y2c0, y3c0⟩ := hXc0
  obtain ⟨y0o4, y1o4, y2o4, y3o4⟩ := hXo4
  go_wp2_with fail
  have hXc0 : BoxC _ _ _ _ _ _ _ _ _ _ := ⟨y0c0, y1c0, y2c0, y3c0⟩
  clear y0c0 y1c0 y2c0 y3c0
  have hXo4 : BoxC _ _ _ _ _ _ _ _ _ _ := ⟨y0o4, y1o4, y2o4, y3o4⟩
  clear y0o4 y1o4 y2o4 y3o4
  refine (toIntS_any _ _ _ _ _ ((hI2.below hB25 (Nat.le_refl _)).up hB25.size)).mono ?_
  rintro e w26 ⟨bo13, no13, co13, rfl, ho13, hb26⟩
  have hB26 := hB25.trans (hb26.mono hB25.size)
  have hZ26 := hb26.size
  replace ho0 := ho0.below hb26 (Nat.le_refl _)
  replace ho1 := ho1.below hb26 (Nat.le_refl _)
  replace ho2 := ho2.below hb26 (Nat.le_refl _)
  replace ho3 := ho3.below hb26 (Nat.le_refl _)
  replace ho4 := ho4.below hb26 (Nat.le_refl _)
  replace ho5 := ho5.below hb26 (Nat.le_refl _)
  replace ho6 := ho6.below hb26 (Nat.le_refl _)
  replace ho7 := ho7.below hb26 (Nat.le_refl _)
  replace ho9 := ho9.below hb26 (Nat.le_refl _)
  replace ho10 := ho10.below hb26 (Nat.le_refl _)
  replace ho11 := ho11.below hb26 (Nat.le_refl _)
  replace ho12 := ho12.below hb26 (Nat.le_refl _)
  replace hXc0 := hXc0.below hb26 (by omega)
  replace hXo4 := hXo4.below hb26 (by omega)
  have hro13 := ho13.rowLt
  have hLo13 := ho13.le
  obtain ⟨y0c0, y1c0, y2c0, y3c0⟩ := hXc0
  obtain ⟨y0o4, y1o4, y2o4, y3o4⟩ := hXo4
  go_wp2_with fail
  have hXc0 : BoxC _ _ _ _ _ _ _ _ _ _ := ⟨y0c0, y1c0, y2c0, y3c0⟩
  clear y0c0 y1c0 y2c0 y3c0
  have hXo4 : BoxC _ _ _ _ _ _ _ _ _ _ := ⟨y0o4, y1o4, y2o4, y3o4⟩
  clear y0o4 y1o4 y2o4 y3o4
  refine (impl_EvalCircuit_any _ _ _ _ _ _ _ _ _ _ _ _ _ _ _ _ _ _ _ ho11.1.flat ho11.2.1.ints ho12.ints ho13.ints).mono ?_
  rintro e w27 ⟨bo14, no14, co14, rfl, ho14, hb27⟩
  rw [← HANS.out]
  rw [← HANS.out] at ho14
  have hB27 := hB26.trans (hb27.mono hB26.size)
  have hZ27 := hb27.size
  replace ho0 := ho0.below hb27 (Nat.le_refl _)
  replace ho1 := ho1.below hb27 (Nat.le_refl _)
  replace ho2 := ho2.below hb27 (Nat.le_refl _)
  replace ho3 := ho3.below hb27 (Nat.le_refl _)
  replace ho4 := ho4.below hb27 (Nat.le_refl _)
  replace ho5 := ho5.below hb27 (Nat.le_refl _)
  replace ho6 := ho6.below hb27 (Nat.le_refl _)
  replace ho7 := ho7.below hb27 (Nat.le_refl _)
  replace ho9 := ho9.below hb27 (Nat.le_refl _)
  replace ho10 := ho10.below hb27 (Nat.le_refl _)
  replace ho11 := ho11.below hb27 (Nat.le_refl _)
  replace ho12 := ho12.below hb27 (Nat.le_refl _)
  replace ho13 := ho13.below hb27 (Nat.le_refl _)
  replace hXc0 := hXc0.below hb27 (by omega)
  replace hXo4 := hXo4.below hb27 (by omega)
  have hro14 := ho14.rowLt
  have hLo14 := ho14.le
  obtain ⟨y0c0, y1c0, y2c0, y3c0⟩ := hXc0
  obtain ⟨y0o4, y1o4, y2o4, y3o4⟩ := hXo4
  go_wp2_with fail
  have hXc0 : BoxC _ _ _ _ _ _ _ _ _ _ := ⟨y0c0, y1c0, y2c0, y3c0⟩
  clear y0c0 y1c0 y2c0 y3c0
  have hXo4 : BoxC _ _ _ _ _ _ _ _ _ _ := ⟨y0o4, y1o4, y2o4, y3o4⟩
  clear y0o4 y1o4 y2o4 y3o4
  refine (eqIntS_any _ _ _ _ _ _ _ _ _ _ _ ho14.ints ho3.ints (Nat.le_refl _) (Nat.le_refl _)).mono ?_
  rintro e w28 ⟨rfl, hb28⟩
  rw [eqB_self]
  have hB28 := hB27.trans (hb28.mono hB27.size)
  have hZ28 := hb28.size
  replace ho0 := ho0.below hb28 (Nat.le_refl _)
  replace ho1 := ho1.below hb28 (Nat.le_refl _)
  replace ho2 := ho2.below hb28 (Nat.le_refl _)
  replace ho3 := ho3.below hb28 (Nat.le_refl _)
  replace ho4 := ho4.below hb28 (Nat.le_refl _)
  replace ho5 := ho5.below hb28 (Nat.le_refl _)
  replace ho6 := ho6.below hb28 (Nat.le_refl _)
  replace ho7 := ho7.below hb28 (Nat.le_refl _)
  replace ho9 := ho9.below hb28 (Nat.le_refl _)
  replace ho10 := ho10.below hb28 (Nat.le_refl _)
  replace ho11 := ho11.below hb28 (Nat.le_refl _)
  replace ho12 := ho12.below hb28 (Nat.le_refl _)
  replace ho13 := ho13.below hb28 (Nat.le_refl _)
  replace ho14 := ho14.below hb28 (Nat.le_refl _)
  replace hXc0 := hXc0.below hb28 (by omega)
  replace hXo4 := hXo4.below hb28 (by omega)
  obtain ⟨y0c0, y1c0, y2c0, y3c0⟩ := hXc0
  obtain ⟨y0o4, y1o4, y2o4, y3o4⟩ := hXo4
  go_wp2_with fail
  have hXc0 : BoxC _ _ _ _ _ _ _ _ _ _ := ⟨y0c0, y1c0, y2c0, y3c0⟩
  clear y0c0 y1c0 y2c0 y3c0
  have hXo4 : BoxC _ _ _ _ _ _ _ _ _ _ := ⟨y0o4, y1o4, y2o4, y3o4⟩
  clear y0o4 y1o4 y2o4 y3o4
  refine (heldIntS_any _ _ _ _ _ _ _ ho7.ints (by omega) (by omega) (marks_held _ _)).mono ?_
  rintro e w' ⟨rfl, rfl⟩
  go_wp2_with fail
  go_ret
  exact ⟨rfl, hB28⟩
end Go.Proofs.Ytbdccgodamkljaa
