/-
  The laws on IsArith and CountArith: their walks (printed by gen_lawc.py).
-/
import Derived.Test.YtbdccgodamkljaaAr4
namespace Go.Proofs.Ytbdccgodamkljaa
open Go.RowKit
set_option linter.unusedVariables false
set_option linter.unusedSimpArgs false

set_option maxHeartbeats 4000000 in
theorem walk_FnExactIsArith (i0_0 i0_1 i0_2 : Int) (ga0 oa0 : Option Addr) (gn0 gc0 on0 oc0 : Nat) (gs0 os0 : List Int) (w0 : World) (hG0 : FlatArg 3 w0 ga0 gn0 gs0) (hO0 : IntsArg w0 oa0 on0 os0) : Calls Try.prog 4 #[arithV i0_0 i0_1 i0_2 ga0 gn0 gc0 oa0 on0 oc0] w0 (RetB true w0) := by
  have hs0 := hG0.2.1
  have ht0 := hO0.2.1
  unfold maxLen at hs0 ht0
  by_cases hg0 : gn0 + on0 ≤ 1048576
  rotate_left
  · unfold arithV
    go_enter Try.func4, Try.ntmps4
    go_wp2_with fail
    refine (szArith_any _ _ _ _ _ _ _ _ _ _ 1048576 (by omega) (by omega) hG0.2.1 hO0.2.1).mono ?_
    rintro e w1 ⟨rfl, hb1⟩
    rw [show szC 1048576 gn0 on0 = -1 from by unfold szC; split <;> (try split) <;> omega]
    go_wp2_with fail
    go_ret
    exact ⟨rfl, ((Below.refl _ _).alloc (Nat.le_refl _) _).trans (hb1.mono (by simp))⟩
  have hFG0 := hG0.flat (by omega)
  have hFO0 := hO0.ints (by omega)
  have hB0 : Below w0.heap.size w0 w0 := Below.refl _ _
  obtain ⟨ans, hans⟩ : ∃ r, r = isArithF i0_0 i0_1 i0_2 gs0 os0 := ⟨_, rfl⟩
  have HANS := Lib.hid hans
  clear hans
  unfold arithV
  go_enter Try.func4, Try.ntmps4
  go_wp2_with fail
  have hb1 : Below w0.heap.size w0 (w0.alloc (.cells #[.int .i64 i0_0, .int .i64 i0_1, .int .i64 i0_2, .slice ga0 gn0 gc0, .slice oa0 on0 oc0] 35)) := (Below.refl _ _).alloc (Nat.le_refl _) _
  have hXc0 := boxA_new w0 (i0_0) (i0_1) (i0_2) ga0 gn0 gc0 oa0 on0 oc0 35
  have hWc0 : w0.heap.size < (w0.alloc (.cells #[.int .i64 i0_0, .int .i64 i0_1, .int .i64 i0_2, .slice ga0 gn0 gc0, .slice oa0 on0 oc0] 35)).heap.size := by simp
  generalize w0.alloc (.cells #[.int .i64 i0_0, .int .i64 i0_1, .int .i64 i0_2, .slice ga0 gn0 gc0, .slice oa0 on0 oc0] 35) = w1 at *
  have hB1 := hB0.trans (hb1.mono hB0.size)
  have hZ1 := hb1.size
  obtain ⟨y0c0, y1c0, y2c0, y3c0, y4c0⟩ := hXc0
  have hXc0 : BoxA _ _ _ _ _ _ _ _ _ _ _ := ⟨y0c0, y1c0, y2c0, y3c0, y4c0⟩
  clear y0c0 y1c0 y2c0 y3c0 y4c0
  refine (szArith_any _ _ _ _ _ _ _ _ _ _ 1048576 (by omega) (by omega) hG0.2.1 hO0.2.1).mono ?_
  rintro e w2 ⟨rfl, hb2⟩
  rw [show szC 1048576 gn0 on0 = 1048576 - gn0 - on0 from by unfold szC; split <;> (try split) <;> omega]
  have hB2 := hB1.trans (hb2.mono hB1.size)
  have hZ2 := hb2.size
  replace hXc0 := hXc0.below hb2 (by omega)
  obtain ⟨y0c0, y1c0, y2c0, y3c0, y4c0⟩ := hXc0
  go_wp2_with fail
  have hXc0 : BoxA _ _ _ _ _ _ _ _ _ _ _ := ⟨y0c0, y1c0, y2c0, y3c0, y4c0⟩
  clear y0c0 y1c0 y2c0 y3c0 y4c0
  refine (toArith_any _ _ _ _ _ _ _ _ _ _ _ _ ((hFG0.below hB2 (Nat.le_refl _)).up hB2.size) ((hFO0.below hB2 (Nat.le_refl _)).up hB2.size)).mono ?_
  rintro e w3 ⟨gao0, gno0, gco0, oao0, ono0, oco0, rfl, ho0, hb3⟩
  unfold arithV
  have hB3 := hB2.trans (hb3.mono hB2.size)
  have hZ3 := hb3.size
  replace hXc0 := hXc0.below hb3 (by omega)
  have hro0 := ho0.1.rowLt
  have hpo0 := ho0.2.1.rowLt
  have hLo0 := ho0.1.le
  have hMo0 := ho0.2.1.le
  obtain ⟨y0c0, y1c0, y2c0, y3c0, y4c0⟩ := hXc0
  go_wp2_with fail
  have hXc0 : BoxA _ _ _ _ _ _ _ _ _ _ _ := ⟨y0c0, y1c0, y2c0, y3c0, y4c0⟩
  clear y0c0 y1c0 y2c0 y3c0 y4c0
  refine (spec_IsArith_any _ _ _ _ _ _ _ _ _ _ _ _ ho0.1.flat ho0.2.1.ints).mono ?_
  rintro e w4 ⟨rfl, hb4⟩
  rw [← HANS.out]
  have hB4 := hB3.trans (hb4.mono hB3.size)
  have hZ4 := hb4.size
  replace ho0 := ho0.below hb4 (Nat.le_refl _)
  replace hXc0 := hXc0.below hb4 (by omega)
  obtain ⟨y0c0, y1c0, y2c0, y3c0, y4c0⟩ := hXc0
  go_wp2_with fail
  have hXc0 : BoxA _ _ _ _ _ _ _ _ _ _ _ := ⟨y0c0, y1c0, y2c0, y3c0, y4c0⟩
  clear y0c0 y1c0 y2c0 y3c0 y4c0
  refine (toArith_any _ _ _ _ _ _ _ _ _ _ _ _ ((hFG0.below hB4 (Nat.le_refl _)).up hB4.size) ((hFO0.below hB4 (Nat.le_refl _)).up hB4.size)).mono ?_
  rintro e w5 ⟨gao2, gno2, gco2, oao2, ono2, oco2, rfl, ho2, hb5⟩
  unfold arithV
  have hB5 := hB4.trans (hb5.mono hB4.size)
  have hZ5 := hb5.size
  replace ho0 := ho0.below hb5 (Nat.le_refl _)
  replace hXc0 := hXc0.below hb5 (by omega)
  have hro2 := ho2.1.rowLt
  have hpo2 := ho2.2.1.rowLt
  have hLo2 := ho2.1.le
  have hMo2 := ho2.2.1.le
  go_wp2_with fail
  have hb6 : Below w5.heap.size w5 (w5.alloc (.cells #[.int .i64 i0_0, .int .i64 i0_1, .int .i64 i0_2, .slice gao2 gno2 gco2, .slice oao2 ono2 oco2] 39)) := (Below.refl _ _).alloc (Nat.le_refl _) _
  have hXo2 := boxA_new w5 (i0_0) (i0_1) (i0_2) gao2 gno2 gco2 oao2 ono2 oco2 39
  have hWo2 : w5.heap.size < (w5.alloc (.cells #[.int .i64 i0_0, .int .i64 i0_1, .int .i64 i0_2, .slice gao2 gno2 gco2, .slice oao2 ono2 oco2] 39)).heap.size := by simp
  generalize w5.alloc (.cells #[.int .i64 i0_0, .int .i64 i0_1, .int .i64 i0_2, .slice gao2 gno2 gco2, .slice oao2 ono2 oco2] 39) = w6 at *
  have hB6 := hB5.trans (hb6.mono hB5.size)
  have hZ6 := hb6.size
  replace ho0 := ho0.below hb6 (Nat.le_refl _)
  replace ho2 := ho2.below hb6 (Nat.le_refl _)
  replace hXc0 := hXc0.below hb6 (by omega)
  obtain ⟨y0c0, y1c0, y2c0, y3c0, y4c0⟩ := hXc0
  obtain ⟨y0o2, y1o2, y2o2, y3o2, y4o2⟩ := hXo2
  have hXc0 : BoxA _ _ _ _ _ _ _ _ _ _ _ := ⟨y0c0, y1c0, y2c0, y3c0, y4c0⟩
  clear y0c0 y1c0 y2c0 y3c0 y4c0
  have hXo2 : BoxA _ _ _ _ _ _ _ _ _ _ _ := ⟨y0o2, y1o2, y2o2, y3o2, y4o2⟩
  clear y0o2 y1o2 y2o2 y3o2 y4o2
  refine (impl_IsArith_any _ _ _ _ _ _ _ _ _ _ _ _ ho2.1.flat ho2.2.1.ints).mono ?_
  rintro e w7 ⟨rfl, hb7⟩
  rw [← HANS.out]
  have hB7 := hB6.trans (hb7.mono hB6.size)
  have hZ7 := hb7.size
  replace ho0 := ho0.below hb7 (Nat.le_refl _)
  replace ho2 := ho2.below hb7 (Nat.le_refl _)
  replace hXc0 := hXc0.below hb7 (by omega)
  replace hXo2 := hXo2.below hb7 (by omega)
  obtain ⟨y0c0, y1c0, y2c0, y3c0, y4c0⟩ := hXc0
  obtain ⟨y0o2, y1o2, y2o2, y3o2, y4o2⟩ := hXo2
  go_wp2_with fail
  have hXc0 : BoxA _ _ _ _ _ _ _ _ _ _ _ := ⟨y0c0, y1c0, y2c0, y3c0, y4c0⟩
  clear y0c0 y1c0 y2c0 y3c0 y4c0
  have hXo2 : BoxA _ _ _ _ _ _ _ _ _ _ _ := ⟨y0o2, y1o2, y2o2, y3o2, y4o2⟩
  clear y0o2 y1o2 y2o2 y3o2 y4o2
  have hS7 : ∀ W, Below w7.heap.size w7 W → W.cell? ⟨w5.heap.size, 0, none⟩ = some (.int .i64 i0_0) ∧ W.cell? ⟨w5.heap.size, 1, none⟩ = some (.int .i64 i0_1) ∧ W.cell? ⟨w5.heap.size, 2, none⟩ = some (.int .i64 i0_2) ∧ W.cell? ⟨w5.heap.size, 3, none⟩ = some (.slice gao2 gno2 gco2) ∧ W.cell? ⟨w5.heap.size, 4, none⟩ = some (.slice oao2 ono2 oco2) ∧ W.cell? ⟨w0.heap.size, 0, none⟩ = some (.int .i64 i0_0) ∧ W.cell? ⟨w0.heap.size, 1, none⟩ = some (.int .i64 i0_1) ∧ W.cell? ⟨w0.heap.size, 2, none⟩ = some (.int .i64 i0_2) ∧ W.cell? ⟨w0.heap.size, 3, none⟩ = some (.slice ga0 gn0 gc0) ∧ W.cell? ⟨w0.heap.size, 4, none⟩ = some (.slice oa0 on0 oc0) ∧ Below w7.heap.size w7 W := fun W h => by
    have hx := hXo2.below h (by omega)
    have hc := hXc0.below h (by omega)
    exact ⟨hx.1, hx.2.1, hx.2.2.1, hx.2.2.2.1, hx.2.2.2.2, hc.1, hc.2.1, hc.2.2.1, hc.2.2.2.1, hc.2.2.2.2, h⟩
  have hT7 : ∀ W W', (W.cell? ⟨w5.heap.size, 0, none⟩ = some (.int .i64 i0_0) ∧ W.cell? ⟨w5.heap.size, 1, none⟩ = some (.int .i64 i0_1) ∧ W.cell? ⟨w5.heap.size, 2, none⟩ = some (.int .i64 i0_2) ∧ W.cell? ⟨w5.heap.size, 3, none⟩ = some (.slice gao2 gno2 gco2) ∧ W.cell? ⟨w5.heap.size, 4, none⟩ = some (.slice oao2 ono2 oco2) ∧ W.cell? ⟨w0.heap.size, 0, none⟩ = some (.int .i64 i0_0) ∧ W.cell? ⟨w0.heap.size, 1, none⟩ = some (.int .i64 i0_1) ∧ W.cell? ⟨w0.heap.size, 2, none⟩ = some (.int .i64 i0_2) ∧ W.cell? ⟨w0.heap.size, 3, none⟩ = some (.slice ga0 gn0 gc0) ∧ W.cell? ⟨w0.heap.size, 4, none⟩ = some (.slice oa0 on0 oc0) ∧ Below w7.heap.size w7 W) → Below W.heap.size W W' → _ := fun W W' h hb => hS7 W' (h.2.2.2.2.2.2.2.2.2.2.trans (hb.mono h.2.2.2.2.2.2.2.2.2.2.size))
  have HS7 := Lib.hid hS7
  have HT7 := Lib.hid hT7
  clear hS7 hT7
  have HF7 := Lib.hid (show ∀ W, Below w7.heap.size w7 W → (Flat 3 W W.heap.size gao2 gno2 gs0 ∧ Ints W W.heap.size oao2 ono2 os0) from fun W h => ⟨(ho2.1.flat.below h (Nat.le_refl _)).up h.size, (ho2.2.1.ints.below h (Nat.le_refl _)).up h.size⟩)
  have HG7 := Lib.hid (show ∀ W, Below w7.heap.size w7 W → (Flat 3 W W.heap.size ga0 gn0 gs0 ∧ Ints W W.heap.size oa0 on0 os0) from fun W h => ⟨(hFG0.below (hB7.trans (h.mono hB7.size)) (Nat.le_refl _)).up (hB7.trans (h.mono hB7.size)).size, (hFO0.below (hB7.trans (h.mono hB7.size)) (Nat.le_refl _)).up (hB7.trans (h.mono hB7.size)).size⟩)
  obtain ⟨y0o2, y1o2, y2o2, y3o2, y4o2⟩ := hXo2
  obtain ⟨y0c0, y1c0, y2c0, y3c0, y4c0⟩ := hXc0
  go_region_held3 (fun w' => w'.cell? ⟨w5.heap.size, 0, none⟩ = some (.int .i64 i0_0) ∧ w'.cell? ⟨w5.heap.size, 1, none⟩ = some (.int .i64 i0_1) ∧ w'.cell? ⟨w5.heap.size, 2, none⟩ = some (.int .i64 i0_2) ∧ w'.cell? ⟨w5.heap.size, 3, none⟩ = some (.slice gao2 gno2 gco2) ∧ w'.cell? ⟨w5.heap.size, 4, none⟩ = some (.slice oao2 ono2 oco2) ∧ w'.cell? ⟨w0.heap.size, 0, none⟩ = some (.int .i64 i0_0) ∧ w'.cell? ⟨w0.heap.size, 1, none⟩ = some (.int .i64 i0_1) ∧ w'.cell? ⟨w0.heap.size, 2, none⟩ = some (.int .i64 i0_2) ∧ w'.cell? ⟨w0.heap.size, 3, none⟩ = some (.slice ga0 gn0 gc0) ∧ w'.cell? ⟨w0.heap.size, 4, none⟩ = some (.slice oa0 on0 oc0) ∧ Below w7.heap.size w7 w') (first | exact HS7.out _ (bdrewN (Below.refl _ _) 1) | exact HT7.out _ _ (by assumption) hb8 | exact HT7.out _ _ (by assumption) hb9)
    (first | (go_at_call 22; refine (toArith_any _ _ _ _ _ _ _ _ _ _ _ _ (HG7.out _ (And.right (And.right (And.right (And.right (And.right (And.right (And.right (And.right (And.right (And.right (by assumption)))))))))))).1 (HG7.out _ (And.right (And.right (And.right (And.right (And.right (And.right (And.right (And.right (And.right (And.right (by assumption)))))))))))).2).mono ?_; rintro e w8 ⟨gao4, gno4, gco4, oao4, ono4, oco4, rfl, ho4, hb8⟩) | (go_at_call 24; refine (eqArith_any _ _ _ _ _ _ _ _ _ _ _ _ _ _ _ _ _ _ _ _ _ _ _ (HF7.out _ (And.right (And.right (And.right (And.right (And.right (And.right (And.right (And.right (And.right (And.right (by assumption)))))))))))).1 (HF7.out _ (And.right (And.right (And.right (And.right (And.right (And.right (And.right (And.right (And.right (And.right (by assumption)))))))))))).2 ho4.1.flat ho4.2.1.ints).mono ?_; rintro e w9 ⟨rfl, hb9⟩; rw [eqAB_self]))
  rename_i hH7
  have hXo2 : BoxA _ _ _ _ _ _ _ _ _ _ _ := ⟨y0o2, y1o2, y2o2, y3o2, y4o2⟩
  clear y0o2 y1o2 y2o2 y3o2 y4o2
  have hXc0 : BoxA _ _ _ _ _ _ _ _ _ _ _ := ⟨y0c0, y1c0, y2c0, y3c0, y4c0⟩
  clear y0c0 y1c0 y2c0 y3c0 y4c0
  replace hb9 := hH7.2.2.2.2.2.2.2.2.2.2
  clear hH7
  have hB9 := hB7.trans (hb9.mono hB7.size)
  have hZ9 := hb9.size
  replace ho0 := ho0.below hb9 (Nat.le_refl _)
  replace ho2 := ho2.below hb9 (Nat.le_refl _)
  replace hXc0 := hXc0.below hb9 (by omega)
  replace hXo2 := hXo2.below hb9 (by omega)
  go_wp2_with fail
  go_ret
  exact ⟨rfl, hB9⟩
set_option maxHeartbeats 4000000 in
theorem walk_FnExactCountArith (i0_0 i0_1 i0_2 : Int) (ga0 oa0 : Option Addr) (gn0 gc0 on0 oc0 : Nat) (gs0 os0 : List Int) (w0 : World) (hG0 : FlatArg 3 w0 ga0 gn0 gs0) (hO0 : IntsArg w0 oa0 on0 os0) : Calls Try.prog 9 #[arithV i0_0 i0_1 i0_2 ga0 gn0 gc0 oa0 on0 oc0] w0 (RetB true w0) := by
  have hs0 := hG0.2.1
  have ht0 := hO0.2.1
  unfold maxLen at hs0 ht0
  by_cases hg0 : gn0 + on0 ≤ 1048576
  rotate_left
  · unfold arithV
    go_enter Try.func9, Try.ntmps9
    go_wp2_with fail
    refine (szArith_any _ _ _ _ _ _ _ _ _ _ 1048576 (by omega) (by omega) hG0.2.1 hO0.2.1).mono ?_
    rintro e w1 ⟨rfl, hb1⟩
    rw [show szC 1048576 gn0 on0 = -1 from by unfold szC; split <;> (try split) <;> omega]
    go_wp2_with fail
    go_ret
    exact ⟨rfl, ((Below.refl _ _).alloc (Nat.le_refl _) _).trans (hb1.mono (by simp))⟩
  have hFG0 := hG0.flat (by omega)
  have hFO0 := hO0.ints (by omega)
  have hB0 : Below w0.heap.size w0 w0 := Below.refl _ _
  obtain ⟨ans, hans⟩ : ∃ r, r = countArithF i0_0 i0_1 i0_2 gs0 os0 := ⟨_, rfl⟩
  have HANS := Lib.hid hans
  clear hans
  unfold arithV
  go_enter Try.func9, Try.ntmps9
  go_wp2_with fail
  have hb1 : Below w0.heap.size w0 (w0.alloc (.cells #[.int .i64 i0_0, .int .i64 i0_1, .int .i64 i0_2, .slice ga0 gn0 gc0, .slice oa0 on0 oc0] 35)) := (Below.refl _ _).alloc (Nat.le_refl _) _
  have hXc0 := boxA_new w0 (i0_0) (i0_1) (i0_2) ga0 gn0 gc0 oa0 on0 oc0 35
  have hWc0 : w0.heap.size < (w0.alloc (.cells #[.int .i64 i0_0, .int .i64 i0_1, .int .i64 i0_2, .slice ga0 gn0 gc0, .slice oa0 on0 oc0] 35)).heap.size := by simp
  generalize w0.alloc (.cells #[.int .i64 i0_0, .int .i64 i0_1, .int .i64 i0_2, .slice ga0 gn0 gc0, .slice oa0 on0 oc0] 35) = w1 at *
  have hB1 := hB0.trans (hb1.mono hB0.size)
  have hZ1 := hb1.size
  obtain ⟨y0c0, y1c0, y2c0, y3c0, y4c0⟩ := hXc0
  have hXc0 : BoxA _ _ _ _ _ _ _ _ _ _ _ := ⟨y0c0, y1c0, y2c0, y3c0, y4c0⟩
  clear y0c0 y1c0 y2c0 y3c0 y4c0
  refine (szArith_any _ _ _ _ _ _ _ _ _ _ 1048576 (by omega) (by omega) hG0.2.1 hO0.2.1).mono ?_
  rintro e w2 ⟨rfl, hb2⟩
  rw [show szC 1048576 gn0 on0 = 1048576 - gn0 - on0 from by unfold szC; split <;> (try split) <;> omega]
  have hB2 := hB1.trans (hb2.mono hB1.size)
  have hZ2 := hb2.size
  replace hXc0 := hXc0.below hb2 (by omega)
  obtain ⟨y0c0, y1c0, y2c0, y3c0, y4c0⟩ := hXc0
  go_wp2_with fail
  have hXc0 : BoxA _ _ _ _ _ _ _ _ _ _ _ := ⟨y0c0, y1c0, y2c0, y3c0, y4c0⟩
  clear y0c0 y1c0 y2c0 y3c0 y4c0
  refine (toArith_any _ _ _ _ _ _ _ _ _ _ _ _ ((hFG0.below hB2 (Nat.le_refl _)).up hB2.size) ((hFO0.below hB2 (Nat.le_refl _)).up hB2.size)).mono ?_
  rintro e w3 ⟨gao0, gno0, gco0, oao0, ono0, oco0, rfl, ho0, hb3⟩
  unfold arithV
  have hB3 := hB2.trans (hb3.mono hB2.size)
  have hZ3 := hb3.size
  replace hXc0 := hXc0.below hb3 (by omega)
  have hro0 := ho0.1.rowLt
  have hpo0 := ho0.2.1.rowLt
  have hLo0 := ho0.1.le
  have hMo0 := ho0.2.1.le
  obtain ⟨y0c0, y1c0, y2c0, y3c0, y4c0⟩ := hXc0
  go_wp2_with fail
  have hXc0 : BoxA _ _ _ _ _ _ _ _ _ _ _ := ⟨y0c0, y1c0, y2c0, y3c0, y4c0⟩
  clear y0c0 y1c0 y2c0 y3c0 y4c0
  refine (spec_CountArith_any _ _ _ _ _ _ _ _ _ _ _ _ ho0.1.flat ho0.2.1.ints).mono ?_
  rintro e w4 ⟨bo1, no1, co1, rfl, ho1, hb4⟩
  rw [← HANS.out]
  rw [← HANS.out] at ho1
  have hB4 := hB3.trans (hb4.mono hB3.size)
  have hZ4 := hb4.size
  replace ho0 := ho0.below hb4 (Nat.le_refl _)
  replace hXc0 := hXc0.below hb4 (by omega)
  have hro1 := ho1.rowLt
  have hLo1 := ho1.le
  obtain ⟨y0c0, y1c0, y2c0, y3c0, y4c0⟩ := hXc0
  go_wp2_with fail
  have hXc0 : BoxA _ _ _ _ _ _ _ _ _ _ _ := ⟨y0c0, y1c0, y2c0, y3c0, y4c0⟩
  clear y0c0 y1c0 y2c0 y3c0 y4c0
  refine (toArith_any _ _ _ _ _ _ _ _ _ _ _ _ ((hFG0.below hB4 (Nat.le_refl _)).up hB4.size) ((hFO0.below hB4 (Nat.le_refl _)).up hB4.size)).mono ?_
  rintro e w5 ⟨gao2, gno2, gco2, oao2, ono2, oco2, rfl, ho2, hb5⟩
  unfold arithV
  have hB5 := hB4.trans (hb5.mono hB4.size)
  have hZ5 := hb5.size
  replace ho0 := ho0.below hb5 (Nat.le_refl _)
  replace ho1 := ho1.below hb5 (Nat.le_refl _)
  replace hXc0 := hXc0.below hb5 (by omega)
  have hro2 := ho2.1.rowLt
  have hpo2 := ho2.2.1.rowLt
  have hLo2 := ho2.1.le
  have hMo2 := ho2.2.1.le
  go_wp2_with fail
  have hb6 : Below w5.heap.size w5 (w5.alloc (.cells #[.int .i64 i0_0, .int .i64 i0_1, .int .i64 i0_2, .slice gao2 gno2 gco2, .slice oao2 ono2 oco2] 39)) := (Below.refl _ _).alloc (Nat.le_refl _) _
  have hXo2 := boxA_new w5 (i0_0) (i0_1) (i0_2) gao2 gno2 gco2 oao2 ono2 oco2 39
  have hWo2 : w5.heap.size < (w5.alloc (.cells #[.int .i64 i0_0, .int .i64 i0_1, .int .i64 i0_2, .slice gao2 gno2 gco2, .slice oao2 ono2 oco2] 39)).heap.size := by simp
  generalize w5.alloc (.cells #[.int .i64 i0_0, .int .i64 i0_1, .int .i64 i0_2, .slice gao2 gno2 gco2, .slice oao2 ono2 oco2] 39) = w6 at *
  have hB6 := hB5.trans (hb6.mono hB5.size)
  have hZ6 := hb6.size
  replace ho0 := ho0.below hb6 (Nat.le_refl _)
  replace ho1 := ho1.below hb6 (Nat.le_refl _)
  replace ho2 := ho2.below hb6 (Nat.le_refl _)
  replace hXc0 := hXc0.below hb6 (by omega)
  obtain ⟨y0c0, y1c0, y2c0, y3c0, y4c0⟩ := hXc0
  obtain ⟨y0o2, y1o2, y2o2, y3o2, y4o2⟩ := hXo2
  have hXc0 : BoxA _ _ _ _ _ _ _ _ _ _ _ := ⟨y0c0, y1c0, y2c0, y3c0, y4c0⟩
  clear y0c0 y1c0 y2c0 y3c0 y4c0
  have hXo2 : BoxA _ _ _ _ _ _ _ _ _ _ _ := ⟨y0o2, y1o2, y2o2, y3o2, y4o2⟩
  clear y0o2 y1o2 y2o2 y3o2 y4o2
  refine (impl_CountArith_any _ _ _ _ _ _ _ _ _ _ _ _ ho2.1.flat ho2.2.1.ints).mono ?_
  rintro e w7 ⟨bo3, no3, co3, rfl, ho3, hb7⟩
  rw [← HANS.out]
  rw [← HANS.out] at ho3
  have hB7 := hB6.trans (hb7.mono hB6.size)
  have hZ7 := hb7.size
  replace ho0 := ho0.below hb7 (Nat.le_refl _)
  replace ho1 := ho1.below hb7 (Nat.le_refl _)
  replace ho2 := ho2.below hb7 (Nat.le_refl _)
  replace hXc0 := hXc0.below hb7 (by omega)
  replace hXo2 := hXo2.below hb7 (by omega)
  have hro3 := ho3.rowLt
  have hLo3 := ho3.le
  obtain ⟨y0c0, y1c0, y2c0, y3c0, y4c0⟩ := hXc0
  obtain ⟨y0o2, y1o2, y2o2, y3o2, y4o2⟩ := hXo2
  go_wp2_with fail
  have hXc0 : BoxA _ _ _ _ _ _ _ _ _ _ _ := ⟨y0c0, y1c0, y2c0, y3c0, y4c0⟩
  clear y0c0 y1c0 y2c0 y3c0 y4c0
  have hXo2 : BoxA _ _ _ _ _ _ _ _ _ _ _ := ⟨y0o2, y1o2, y2o2, y3o2, y4o2⟩
  clear y0o2 y1o2 y2o2 y3o2 y4o2
  refine (eqIntS_any _ _ _ _ _ _ _ _ _ _ _ ho3.ints ho1.ints (Nat.le_refl _) (Nat.le_refl _)).mono ?_
  rintro e w8 ⟨rfl, hb8⟩
  rw [eqB_self]
  have hB8 := hB7.trans (hb8.mono hB7.size)
  have hZ8 := hb8.size
  replace ho0 := ho0.below hb8 (Nat.le_refl _)
  replace ho1 := ho1.below hb8 (Nat.le_refl _)
  replace ho2 := ho2.below hb8 (Nat.le_refl _)
  replace ho3 := ho3.below hb8 (Nat.le_refl _)
  replace hXc0 := hXc0.below hb8 (by omega)
  replace hXo2 := hXo2.below hb8 (by omega)
  obtain ⟨y0c0, y1c0, y2c0, y3c0, y4c0⟩ := hXc0
  obtain ⟨y0o2, y1o2, y2o2, y3o2, y4o2⟩ := hXo2
  go_wp2_with fail
  have hXc0 : BoxA _ _ _ _ _ _ _ _ _ _ _ := ⟨y0c0, y1c0, y2c0, y3c0, y4c0⟩
  clear y0c0 y1c0 y2c0 y3c0 y4c0
  have hXo2 : BoxA _ _ _ _ _ _ _ _ _ _ _ := ⟨y0o2, y1o2, y2o2, y3o2, y4o2⟩
  clear y0o2 y1o2 y2o2 y3o2 y4o2
  have hS8 : ∀ W, Below w8.heap.size w8 W → W.cell? ⟨w5.heap.size, 0, none⟩ = some (.int .i64 i0_0) ∧ W.cell? ⟨w5.heap.size, 1, none⟩ = some (.int .i64 i0_1) ∧ W.cell? ⟨w5.heap.size, 2, none⟩ = some (.int .i64 i0_2) ∧ W.cell? ⟨w5.heap.size, 3, none⟩ = some (.slice gao2 gno2 gco2) ∧ W.cell? ⟨w5.heap.size, 4, none⟩ = some (.slice oao2 ono2 oco2) ∧ W.cell? ⟨w0.heap.size, 0, none⟩ = some (.int .i64 i0_0) ∧ W.cell? ⟨w0.heap.size, 1, none⟩ = some (.int .i64 i0_1) ∧ W.cell? ⟨w0.heap.size, 2, none⟩ = some (.int .i64 i0_2) ∧ W.cell? ⟨w0.heap.size, 3, none⟩ = some (.slice ga0 gn0 gc0) ∧ W.cell? ⟨w0.heap.size, 4, none⟩ = some (.slice oa0 on0 oc0) ∧ Below w8.heap.size w8 W := fun W h => by
    have hx := hXo2.below h (by omega)
    have hc := hXc0.below h (by omega)
    exact ⟨hx.1, hx.2.1, hx.2.2.1, hx.2.2.2.1, hx.2.2.2.2, hc.1, hc.2.1, hc.2.2.1, hc.2.2.2.1, hc.2.2.2.2, h⟩
  have hT8 : ∀ W W', (W.cell? ⟨w5.heap.size, 0, none⟩ = some (.int .i64 i0_0) ∧ W.cell? ⟨w5.heap.size, 1, none⟩ = some (.int .i64 i0_1) ∧ W.cell? ⟨w5.heap.size, 2, none⟩ = some (.int .i64 i0_2) ∧ W.cell? ⟨w5.heap.size, 3, none⟩ = some (.slice gao2 gno2 gco2) ∧ W.cell? ⟨w5.heap.size, 4, none⟩ = some (.slice oao2 ono2 oco2) ∧ W.cell? ⟨w0.heap.size, 0, none⟩ = some (.int .i64 i0_0) ∧ W.cell? ⟨w0.heap.size, 1, none⟩ = some (.int .i64 i0_1) ∧ W.cell? ⟨w0.heap.size, 2, none⟩ = some (.int .i64 i0_2) ∧ W.cell? ⟨w0.heap.size, 3, none⟩ = some (.slice ga0 gn0 gc0) ∧ W.cell? ⟨w0.heap.size, 4, none⟩ = some (.slice oa0 on0 oc0) ∧ Below w8.heap.size w8 W) → Below W.heap.size W W' → _ := fun W W' h hb => hS8 W' (h.2.2.2.2.2.2.2.2.2.2.trans (hb.mono h.2.2.2.2.2.2.2.2.2.2.size))
  have HS8 := Lib.hid hS8
  have HT8 := Lib.hid hT8
  clear hS8 hT8
  have HF8 := Lib.hid (show ∀ W, Below w8.heap.size w8 W → (Flat 3 W W.heap.size gao2 gno2 gs0 ∧ Ints W W.heap.size oao2 ono2 os0) from fun W h => ⟨(ho2.1.flat.below h (Nat.le_refl _)).up h.size, (ho2.2.1.ints.below h (Nat.le_refl _)).up h.size⟩)
  have HG8 := Lib.hid (show ∀ W, Below w8.heap.size w8 W → (Flat 3 W W.heap.size ga0 gn0 gs0 ∧ Ints W W.heap.size oa0 on0 os0) from fun W h => ⟨(hFG0.below (hB8.trans (h.mono hB8.size)) (Nat.le_refl _)).up (hB8.trans (h.mono hB8.size)).size, (hFO0.below (hB8.trans (h.mono hB8.size)) (Nat.le_refl _)).up (hB8.trans (h.mono hB8.size)).size⟩)
  obtain ⟨y0o2, y1o2, y2o2, y3o2, y4o2⟩ := hXo2
  obtain ⟨y0c0, y1c0, y2c0, y3c0, y4c0⟩ := hXc0
  go_region_held3 (fun w' => w'.cell? ⟨w5.heap.size, 0, none⟩ = some (.int .i64 i0_0) ∧ w'.cell? ⟨w5.heap.size, 1, none⟩ = some (.int .i64 i0_1) ∧ w'.cell? ⟨w5.heap.size, 2, none⟩ = some (.int .i64 i0_2) ∧ w'.cell? ⟨w5.heap.size, 3, none⟩ = some (.slice gao2 gno2 gco2) ∧ w'.cell? ⟨w5.heap.size, 4, none⟩ = some (.slice oao2 ono2 oco2) ∧ w'.cell? ⟨w0.heap.size, 0, none⟩ = some (.int .i64 i0_0) ∧ w'.cell? ⟨w0.heap.size, 1, none⟩ = some (.int .i64 i0_1) ∧ w'.cell? ⟨w0.heap.size, 2, none⟩ = some (.int .i64 i0_2) ∧ w'.cell? ⟨w0.heap.size, 3, none⟩ = some (.slice ga0 gn0 gc0) ∧ w'.cell? ⟨w0.heap.size, 4, none⟩ = some (.slice oa0 on0 oc0) ∧ Below w8.heap.size w8 w') (first | exact HS8.out _ (bdrewN (Below.refl _ _) 1) | exact HT8.out _ _ (by assumption) hb9 | exact HT8.out _ _ (by assumption) hb10)
    (first | (go_at_call 22; refine (toArith_any _ _ _ _ _ _ _ _ _ _ _ _ (HG8.out _ (And.right (And.right (And.right (And.right (And.right (And.right (And.right (And.right (And.right (And.right (by assumption)))))))))))).1 (HG8.out _ (And.right (And.right (And.right (And.right (And.right (And.right (And.right (And.right (And.right (And.right (by assumption)))))))))))).2).mono ?_; rintro e w9 ⟨gao4, gno4, gco4, oao4, ono4, oco4, rfl, ho4, hb9⟩) | (go_at_call 24; refine (eqArith_any _ _ _ _ _ _ _ _ _ _ _ _ _ _ _ _ _ _ _ _ _ _ _ (HF8.out _ (And.right (And.right (And.right (And.right (And.right (And.right (And.right (And.right (And.right (And.right (by assumption)))))))))))).1 (HF8.out _ (And.right (And.right (And.right (And.right (And.right (And.right (And.right (And.right (And.right (And.right (by assumption)))))))))))).2 ho4.1.flat ho4.2.1.ints).mono ?_; rintro e w10 ⟨rfl, hb10⟩; rw [eqAB_self]))
  rename_i hH8
  have hXo2 : BoxA _ _ _ _ _ _ _ _ _ _ _ := ⟨y0o2, y1o2, y2o2, y3o2, y4o2⟩
  clear y0o2 y1o2 y2o2 y3o2 y4o2
  have hXc0 : BoxA _ _ _ _ _ _ _ _ _ _ _ := ⟨y0c0, y1c0, y2c0, y3c0, y4c0⟩
  clear y0c0 y1c0 y2c0 y3c0 y4c0
  replace hb10 := hH8.2.2.2.2.2.2.2.2.2.2
  clear hH8
  have hB10 := hB8.trans (hb10.mono hB8.size)
  have hZ10 := hb10.size
  replace ho0 := ho0.below hb10 (Nat.le_refl _)
  replace ho1 := ho1.below hb10 (Nat.le_refl _)
  replace ho2 := ho2.below hb10 (Nat.le_refl _)
  replace ho3 := ho3.below hb10 (Nat.le_refl _)
  replace hXc0 := hXc0.below hb10 (by omega)
  replace hXo2 := hXo2.below hb10 (by omega)
  obtain ⟨y0c0, y1c0, y2c0, y3c0, y4c0⟩ := hXc0
  obtain ⟨y0o2, y1o2, y2o2, y3o2, y4o2⟩ := hXo2
  go_wp2_with fail
  have hXc0 : BoxA _ _ _ _ _ _ _ _ _ _ _ := ⟨y0c0, y1c0, y2c0, y3c0, y4c0⟩
  clear y0c0 y1c0 y2c0 y3c0 y4c0
  have hXo2 : BoxA _ _ _ _ _ _ _ _ _ _ _ := ⟨y0o2, y1o2, y2o2, y3o2, y4o2⟩
  clear y0o2 y1o2 y2o2 y3o2 y4o2
  refine (markArith_any _ _ _ _ _ _ _ _ _ _ _ _ _ _ ho2 (by omega) (by omega) (by omega)).mono ?_
  rintro e w11 ⟨rfl, hm11, u11, hg11, hk11⟩
  have hC11 : Below w0.heap.size w0 u11 := hB10.grown hg11 hB10.size (fun k hk => by have := hro2 k hk; omega)
  have hB11 : Below w0.heap.size w0 w11 := hC11.grown hk11 hC11.size (fun k hk => by have := hpo2 k hk; omega)
  have hZ11 := Nat.le_trans hg11.size hk11.size
  have hY11 := hg11.size
  have hV11 := hk11.size
  replace ho0 := ho0.other hg11 (fun k l h1 h2 => by have := hro0 k h1; have := hro2 l h2; omega) (fun k l h1 h2 => by have := hpo0 k h1; have := hro2 l h2; omega)
  replace ho1 := ho1.other hg11 (fun k l h1 h2 => by have := hro1 k h1; have := hro2 l h2; omega)
  replace ho3 := ho3.other hg11 (fun k l h1 h2 => by have := hro3 k h1; have := hro2 l h2; omega)
  replace hXc0 := hXc0.other hg11 (by omega) (fun l h2 => by have := hro2 l h2; omega)
  replace hXo2 := hXo2.other hg11 (by omega) (fun l h2 => by have := hro2 l h2; omega)
  replace ho0 := ho0.other hk11 (fun k l h1 h2 => by have := hro0 k h1; have := hpo2 l h2; omega) (fun k l h1 h2 => by have := hpo0 k h1; have := hpo2 l h2; omega)
  replace ho1 := ho1.other hk11 (fun k l h1 h2 => by have := hro1 k h1; have := hpo2 l h2; omega)
  replace ho3 := ho3.other hk11 (fun k l h1 h2 => by have := hro3 k h1; have := hpo2 l h2; omega)
  replace hXc0 := hXc0.other hk11 (by omega) (fun l h2 => by have := hpo2 l h2; omega)
  replace hXo2 := hXo2.other hk11 (by omega) (fun l h2 => by have := hpo2 l h2; omega)
  replace ho2 := hm11
  clear hm11
  obtain ⟨y0c0, y1c0, y2c0, y3c0, y4c0⟩ := hXc0
  obtain ⟨y0o2, y1o2, y2o2, y3o2, y4o2⟩ := hXo2
  go_wp2_with fail
  have hXc0 : BoxA _ _ _ _ _ _ _ _ _ _ _ := ⟨y0c0, y1c0, y2c0, y3c0, y4c0⟩
  clear y0c0 y1c0 y2c0 y3c0 y4c0
  have hXo2 : BoxA _ _ _ _ _ _ _ _ _ _ _ := ⟨y0o2, y1o2, y2o2, y3o2, y4o2⟩
  clear y0o2 y1o2 y2o2 y3o2 y4o2
  refine (eqIntS_any _ _ _ _ _ _ _ _ _ _ _ ho3.ints ho1.ints (Nat.le_refl _) (Nat.le_refl _)).mono ?_
  rintro e w12 ⟨rfl, hb12⟩
  rw [eqB_self]
  have hB12 := hB11.trans (hb12.mono hB11.size)
  have hZ12 := hb12.size
  replace ho0 := ho0.below hb12 (Nat.le_refl _)
  replace ho1 := ho1.below hb12 (Nat.le_refl _)
  replace ho2 := ho2.below hb12 (Nat.le_refl _)
  replace ho3 := ho3.below hb12 (Nat.le_refl _)
  replace hXc0 := hXc0.below hb12 (by omega)
  replace hXo2 := hXo2.below hb12 (by omega)
  obtain ⟨y0c0, y1c0, y2c0, y3c0, y4c0⟩ := hXc0
  obtain ⟨y0o2, y1o2, y2o2, y3o2, y4o2⟩ := hXo2
  go_wp2_with fail
  have hXc0 : BoxA _ _ _ _ _ _ _ _ _ _ _ := ⟨y0c0, y1c0, y2c0, y3c0, y4c0⟩
  clear y0c0 y1c0 y2c0 y3c0 y4c0
  have hXo2 : BoxA _ _ _ _ _ _ _ _ _ _ _ := ⟨y0o2, y1o2, y2o2, y3o2, y4o2⟩
  clear y0o2 y1o2 y2o2 y3o2 y4o2
  refine (markIntS_any _ _ _ _ _ 1 _ ho3 (by omega) (by omega)).mono ?_
  rintro e w13 ⟨rfl, hm13, hg13⟩
  have hB13 : Below w0.heap.size w0 w13 := hB12.grown hg13 hB12.size (fun k hk => by have := hro3 k hk; omega)
  have hZ13 := hg13.size
  replace ho0 := ho0.other hg13 (fun k l h1 h2 => by have := hro0 k h1; have := hro3 l h2; omega) (fun k l h1 h2 => by have := hpo0 k h1; have := hro3 l h2; omega)
  replace ho1 := ho1.other hg13 (fun k l h1 h2 => by have := hro1 k h1; have := hro3 l h2; omega)
  replace ho2 := ho2.other hg13 (fun k l h1 h2 => by have := hro2 k h1; have := hro3 l h2; omega) (fun k l h1 h2 => by have := hpo2 k h1; have := hro3 l h2; omega)
  replace hXc0 := hXc0.other hg13 (by omega) (fun l h2 => by have := hro3 l h2; omega)
  replace hXo2 := hXo2.other hg13 (by omega) (fun l h2 => by have := hro3 l h2; omega)
  replace ho3 := hm13
  clear hm13
  obtain ⟨y0c0, y1c0, y2c0, y3c0, y4c0⟩ := hXc0
  obtain ⟨y0o2, y1o2, y2o2, y3o2, y4o2⟩ := hXo2
  go_wp2_with fail
  have hXc0 : BoxA _ _ _ _ _ _ _ _ _ _ _ := ⟨y0c0, y1c0, y2c0, y3c0, y4c0⟩
  clear y0c0 y1c0 y2c0 y3c0 y4c0
  have hXo2 : BoxA _ _ _ _ _ _ _ _ _ _ _ := ⟨y0o2, y1o2, y2o2, y3o2, y4o2⟩
  clear y0o2 y1o2 y2o2 y3o2 y4o2
  refine (heldIntS_any _ _ _ _ _ _ _ ho3.ints (by omega) (by omega) (marks_held _ _)).mono ?_
  rintro e w' ⟨rfl, rfl⟩
  obtain ⟨y0c0, y1c0, y2c0, y3c0, y4c0⟩ := hXc0
  obtain ⟨y0o2, y1o2, y2o2, y3o2, y4o2⟩ := hXo2
  go_wp2_with fail
  have hXc0 : BoxA _ _ _ _ _ _ _ _ _ _ _ := ⟨y0c0, y1c0, y2c0, y3c0, y4c0⟩
  clear y0c0 y1c0 y2c0 y3c0 y4c0
  have hXo2 : BoxA _ _ _ _ _ _ _ _ _ _ _ := ⟨y0o2, y1o2, y2o2, y3o2, y4o2⟩
  clear y0o2 y1o2 y2o2 y3o2 y4o2
  refine (toArith_any _ _ _ _ _ _ _ _ _ _ _ _ ((hFG0.below hB13 (Nat.le_refl _)).up hB13.size) ((hFO0.below hB13 (Nat.le_refl _)).up hB13.size)).mono ?_
  rintro e w14 ⟨gao5, gno5, gco5, oao5, ono5, oco5, rfl, ho5, hb14⟩
  unfold arithV
  have hB14 := hB13.trans (hb14.mono hB13.size)
  have hZ14 := hb14.size
  replace ho0 := ho0.below hb14 (Nat.le_refl _)
  replace ho1 := ho1.below hb14 (Nat.le_refl _)
  replace ho2 := ho2.below hb14 (Nat.le_refl _)
  replace ho3 := ho3.below hb14 (Nat.le_refl _)
  replace hXc0 := hXc0.below hb14 (by omega)
  replace hXo2 := hXo2.below hb14 (by omega)
  have hro5 := ho5.1.rowLt
  have hpo5 := ho5.2.1.rowLt
  have hLo5 := ho5.1.le
  have hMo5 := ho5.2.1.le
  obtain ⟨y0c0, y1c0, y2c0, y3c0, y4c0⟩ := hXc0
  obtain ⟨y0o2, y1o2, y2o2, y3o2, y4o2⟩ := hXo2
  go_wp2_with fail
  have hXc0 : BoxA _ _ _ _ _ _ _ _ _ _ _ := ⟨y0c0, y1c0, y2c0, y3c0, y4c0⟩
  clear y0c0 y1c0 y2c0 y3c0 y4c0
  have hXo2 : BoxA _ _ _ _ _ _ _ _ _ _ _ := ⟨y0o2, y1o2, y2o2, y3o2, y4o2⟩
  clear y0o2 y1o2 y2o2 y3o2 y4o2
  refine (impl_CountArith_any _ _ _ _ _ _ _ _ _ _ _ _ ho5.1.flat ho5.2.1.ints).mono ?_
  rintro e w15 ⟨bo6, no6, co6, rfl, ho6, hb15⟩
  rw [← HANS.out]
  rw [← HANS.out] at ho6
  have hB15 := hB14.trans (hb15.mono hB14.size)
  have hZ15 := hb15.size
  replace ho0 := ho0.below hb15 (Nat.le_refl _)
  replace ho1 := ho1.below hb15 (Nat.le_refl _)
  replace ho2 := ho2.below hb15 (Nat.le_refl _)
  replace ho3 := ho3.below hb15 (Nat.le_refl _)
  replace ho5 := ho5.below hb15 (Nat.le_refl _)
  replace hXc0 := hXc0.below hb15 (by omega)
  replace hXo2 := hXo2.below hb15 (by omega)
  have hro6 := ho6.rowLt
  have hLo6 := ho6.le
  obtain ⟨y0c0, y1c0, y2c0, y3c0, y4c0⟩ := hXc0
  obtain ⟨y0o2, y1o2, y2o2, y3o2, y4o2⟩ := hXo2
  go_wp2_with fail
  have hXc0 : BoxA _ _ _ _ _ _ _ _ _ _ _ := ⟨y0c0, y1c0, y2c0, y3c0, y4c0⟩
  clear y0c0 y1c0 y2c0 y3c0 y4c0
  have hXo2 : BoxA _ _ _ _ _ _ _ _ _ _ _ := ⟨y0o2, y1o2, y2o2, y3o2, y4o2⟩
  clear y0o2 y1o2 y2o2 y3o2 y4o2
  refine (eqIntS_any _ _ _ _ _ _ _ _ _ _ _ ho6.ints ho1.ints (Nat.le_refl _) (Nat.le_refl _)).mono ?_
  rintro e w16 ⟨rfl, hb16⟩
  rw [eqB_self]
  have hB16 := hB15.trans (hb16.mono hB15.size)
  have hZ16 := hb16.size
  replace ho0 := ho0.below hb16 (Nat.le_refl _)
  replace ho1 := ho1.below hb16 (Nat.le_refl _)
  replace ho2 := ho2.below hb16 (Nat.le_refl _)
  replace ho3 := ho3.below hb16 (Nat.le_refl _)
  replace ho5 := ho5.below hb16 (Nat.le_refl _)
  replace ho6 := ho6.below hb16 (Nat.le_refl _)
  replace hXc0 := hXc0.below hb16 (by omega)
  replace hXo2 := hXo2.below hb16 (by omega)
  obtain ⟨y0c0, y1c0, y2c0, y3c0, y4c0⟩ := hXc0
  obtain ⟨y0o2, y1o2, y2o2, y3o2, y4o2⟩ := hXo2
  go_wp2_with fail
  have hXc0 : BoxA _ _ _ _ _ _ _ _ _ _ _ := ⟨y0c0, y1c0, y2c0, y3c0, y4c0⟩
  clear y0c0 y1c0 y2c0 y3c0 y4c0
  have hXo2 : BoxA _ _ _ _ _ _ _ _ _ _ _ := ⟨y0o2, y1o2, y2o2, y3o2, y4o2⟩
  clear y0o2 y1o2 y2o2 y3o2 y4o2
  refine (heldIntS_any _ _ _ _ _ _ _ ho3.ints (by omega) (by omega) (marks_held _ _)).mono ?_
  rintro e w' ⟨rfl, rfl⟩
  go_wp2_with fail
  go_ret
  exact ⟨rfl, hB16⟩
end Go.Proofs.Ytbdccgodamkljaa
