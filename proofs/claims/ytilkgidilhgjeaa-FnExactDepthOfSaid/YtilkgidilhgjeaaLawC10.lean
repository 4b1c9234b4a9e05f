/-
  The law on DepthOf: its walk (printed by gen_lawc.py).
-/
import Derived.Test.YtilkgidilhgjeaaDep2
namespace Go.Proofs.Ytilkgidilhgjeaa
open Go.RowKit
set_option linter.unusedVariables false
set_option linter.unusedSimpArgs false

set_option maxHeartbeats 4000000 in
theorem walk_FnExactDepthOf (i0_0 i0_1 : Int) (ga0 oa0 : Option Addr) (gn0 gc0 on0 oc0 : Nat) (gs0 os0 : List Int) (w0 : World) (hG0 : FlatArg 3 w0 ga0 gn0 gs0) (hO0 : IntsArg w0 oa0 on0 os0) : Calls Try.prog 4 #[circV i0_0 i0_1 ga0 gn0 gc0 oa0 on0 oc0] w0 (RetB true w0) := by
  have hs0 := hG0.2.1
  have ht0 := hO0.2.1
  unfold maxLen at hs0 ht0
  by_cases hg0 : gn0 + on0 ≤ 1048576
  rotate_left
  · unfold circV
    go_enter Try.func4, Try.ntmps4
    go_wp2_with fail
    refine (szCircuit_any _ _ _ _ _ _ _ _ _ 1048576 (by omega) (by omega) hG0.2.1 hO0.2.1).mono ?_
    rintro e w1 ⟨rfl, hb1⟩
    rw [show szC 1048576 gn0 on0 = -1 from by unfold szC; split <;> (try split) <;> omega]
    go_wp2_with fail
    go_ret
    exact ⟨rfl, ((Below.refl _ _).alloc (Nat.le_refl _) _).trans (hb1.mono (by simp))⟩
  have hFG0 := hG0.flat (by omega)
  have hFO0 := hO0.ints (by omega)
  have hB0 : Below w0.heap.size w0 w0 := Below.refl _ _
  obtain ⟨ans, hans⟩ : ∃ r, r = depthF i0_0 i0_1 gs0 os0 := ⟨_, rfl⟩
  have HANS := Lib.hid hans
  clear hans
  unfold circV
  go_enter Try.func4, Try.ntmps4
  go_wp2_with fail
  have hb1 : Below w0.heap.size w0 (w0.alloc (.cells #[.int .i64 i0_0, .int .i64 i0_1, .slice ga0 gn0 gc0, .slice oa0 on0 oc0] 37)) := (Below.refl _ _).alloc (Nat.le_refl _) _
  have hXc0 := boxC_new w0 (i0_0) (i0_1) ga0 gn0 gc0 oa0 on0 oc0 37
  have hWc0 : w0.heap.size < (w0.alloc (.cells #[.int .i64 i0_0, .int .i64 i0_1, .slice ga0 gn0 gc0, .slice oa0 on0 oc0] 37)).heap.size := by simp
  generalize w0.alloc (.cells #[.int .i64 i0_0, .int .i64 i0_1, .slice ga0 gn0 gc0, .slice oa0 on0 oc0] 37) = w1 at *
  have hB1 := hB0.trans (hb1.mono hB0.size)
  have hZ1 := hb1.size
  obtain ⟨y0c0, y1c0, y2c0, y3c0⟩ := hXc0
  have hXc0 : BoxC _ _ _ _ _ _ _ _ _ _ := ⟨y0c0, y1c0, y2c0, y3c0⟩
  clear y0c0 y1c0 y2c0 y3c0
  refine (szCircuit_any _ _ _ _ _ _ _ _ _ 1048576 (by omega) (by omega) hG0.2.1 hO0.2.1).mono ?_
  rintro e w2 ⟨rfl, hb2⟩
  rw [show szC 1048576 gn0 on0 = 1048576 - gn0 - on0 from by unfold szC; split <;> (try split) <;> omega]
  have hB2 := hB1.trans (hb2.mono hB1.size)
  have hZ2 := hb2.size
  replace hXc0 := hXc0.below hb2 (by omega)
  obtain ⟨y0c0, y1c0, y2c0, y3c0⟩ := hXc0
  go_wp2_with fail
  have hXc0 : BoxC _ _ _ _ _ _ _ _ _ _ := ⟨y0c0, y1c0, y2c0, y3c0⟩
  clear y0c0 y1c0 y2c0 y3c0
  refine (toCircuit_any _ _ _ _ _ _ _ _ _ _ _ ((hFG0.below hB2 (Nat.le_refl _)).up hB2.size) ((hFO0.below hB2 (Nat.le_refl _)).up hB2.size)).mono ?_
  rintro e w3 ⟨gao0, gno0, gco0, oao0, ono0, oco0, rfl, ho0, hb3⟩
  unfold circV
  have hB3 := hB2.trans (hb3.mono hB2.size)
  have hZ3 := hb3.size
  replace hXc0 := hXc0.below hb3 (by omega)
  have hro0 := ho0.1.rowLt
  have hpo0 := ho0.2.1.rowLt
  have hLo0 := ho0.1.le
  have hMo0 := ho0.2.1.le
  obtain ⟨y0c0, y1c0, y2c0, y3c0⟩ := hXc0
  go_wp2_with fail
  have hXc0 : BoxC _ _ _ _ _ _ _ _ _ _ := ⟨y0c0, y1c0, y2c0, y3c0⟩
  clear y0c0 y1c0 y2c0 y3c0
  refine (spec_DepthOf_any _ _ _ _ _ _ _ _ _ _ _ ho0.1.flat ho0.2.1.ints).mono ?_
  rintro e w4 ⟨rfl, hb4⟩
  rw [← HANS.out]
  have hB4 := hB3.trans (hb4.mono hB3.size)
  have hZ4 := hb4.size
  replace ho0 := ho0.below hb4 (Nat.le_refl _)
  replace hXc0 := hXc0.below hb4 (by omega)
  obtain ⟨y0c0, y1c0, y2c0, y3c0⟩ := hXc0
  go_wp2_with fail
  have hXc0 : BoxC _ _ _ _ _ _ _ _ _ _ := ⟨y0c0, y1c0, y2c0, y3c0⟩
  clear y0c0 y1c0 y2c0 y3c0
  refine (toCircuit_any _ _ _ _ _ _ _ _ _ _ _ ((hFG0.below hB4 (Nat.le_refl _)).up hB4.size) ((hFO0.below hB4 (Nat.le_refl _)).up hB4.size)).mono ?_
  rintro e w5 ⟨gao2, gno2, gco2, oao2, ono2, oco2, rfl, ho2, hb5⟩
  unfold circV
  have hB5 := hB4.trans (hb5.mono hB4.size)
  have hZ5 := hb5.size
  replace ho0 := ho0.below hb5 (Nat.le_refl _)
  replace hXc0 := hXc0.below hb5 (by omega)
  have hro2 := ho2.1.rowLt
  have hpo2 := ho2.2.1.rowLt
  have hLo2 := ho2.1.le
  have hMo2 := ho2.2.1.le
  go_wp2_with fail
  have hb6 : Below w5.heap.size w5 (w5.alloc (.cells #[.int .i64 i0_0, .int .i64 i0_1, .slice gao2 gno2 gco2, .slice oao2 ono2 oco2] 43)) := (Below.refl _ _).alloc (Nat.le_refl _) _
  have hXo2 := boxC_new w5 (i0_0) (i0_1) gao2 gno2 gco2 oao2 ono2 oco2 43
  have hWo2 : w5.heap.size < (w5.alloc (.cells #[.int .i64 i0_0, .int .i64 i0_1, .slice gao2 gno2 gco2, .slice oao2 ono2 oco2] 43)).heap.size := by simp
  generalize w5.alloc (.cells #[.int .i64 i0_0, .int .i64 i0_1, .slice gao2 gno2 gco2, .slice oao2 ono2 oco2] 43) = w6 at *
  have hB6 := hB5.trans (hb6.mono hB5.size)
  have hZ6 := hb6.size
  replace ho0 := ho0.below hb6 (Nat.le_refl _)
  replace ho2 := ho2.below hb6 (Nat.le_refl _)
  replace hXc0 := hXc0.below hb6 (by omega)
  obtain ⟨y0c0, y1c0, y2c0, y3c0⟩ := hXc0
  obtain ⟨y0o2, y1o2, y2o2, y3o2⟩ := hXo2
  have hXc0 : BoxC _ _ _ _ _ _ _ _ _ _ := ⟨y0c0, y1c0, y2c0, y3c0⟩
  clear y0c0 y1c0 y2c0 y3c0
  have hXo2 : BoxC _ _ _ _ _ _ _ _ _ _ := ⟨y0o2, y1o2, y2o2, y3o2⟩
  clear y0o2 y1o2 y2o2 y3o2
  refine (impl_DepthOf_any _ _ _ _ _ _ _ _ _ _ _ ho2.1.flat ho2.2.1.ints).mono ?_
  rintro e w7 ⟨rfl, hb7⟩
  rw [← HANS.out]
  have hB7 := hB6.trans (hb7.mono hB6.size)
  have hZ7 := hb7.size
  replace ho0 := ho0.below hb7 (Nat.le_refl _)
  replace ho2 := ho2.below hb7 (Nat.le_refl _)
  replace hXc0 := hXc0.below hb7 (by omega)
  replace hXo2 := hXo2.below hb7 (by omega)
  obtain ⟨y0c0, y1c0, y2c0, y3c0⟩ := hXc0
  obtain ⟨y0o2, y1o2, y2o2, y3o2⟩ := hXo2
  go_wp2_with fail
  have hXc0 : BoxC _ _ _ _ _ _ _ _ _ _ := ⟨y0c0, y1c0, y2c0, y3c0⟩
  clear y0c0 y1c0 y2c0 y3c0
  have hXo2 : BoxC _ _ _ _ _ _ _ _ _ _ := ⟨y0o2, y1o2, y2o2, y3o2⟩
  clear y0o2 y1o2 y2o2 y3o2
  have hS7 : ∀ W, Below w7.heap.size w7 W → W.cell? ⟨w5.heap.size, 0, none⟩ = some (.int .i64 i0_0) ∧ W.cell? ⟨w5.heap.size, 1, none⟩ = some (.int .i64 i0_1) ∧ W.cell? ⟨w5.heap.size, 2, none⟩ = some (.slice gao2 gno2 gco2) ∧ W.cell? ⟨w5.heap.size, 3, none⟩ = some (.slice oao2 ono2 oco2) ∧ W.cell? ⟨w0.heap.size, 0, none⟩ = some (.int .i64 i0_0) ∧ W.cell? ⟨w0.heap.size, 1, none⟩ = some (.int .i64 i0_1) ∧ W.cell? ⟨w0.heap.size, 2, none⟩ = some (.slice ga0 gn0 gc0) ∧ W.cell? ⟨w0.heap.size, 3, none⟩ = some (.slice oa0 on0 oc0) ∧ Below w7.heap.size w7 W := fun W h => by
    have hx := hXo2.below h (by omega)
    have hc := hXc0.below h (by omega)
    exact ⟨hx.1, hx.2.1, hx.2.2.1, hx.2.2.2, hc.1, hc.2.1, hc.2.2.1, hc.2.2.2, h⟩
  have hT7 : ∀ W W', (W.cell? ⟨w5.heap.size, 0, none⟩ = some (.int .i64 i0_0) ∧ W.cell? ⟨w5.heap.size, 1, none⟩ = some (.int .i64 i0_1) ∧ W.cell? ⟨w5.heap.size, 2, none⟩ = some (.slice gao2 gno2 gco2) ∧ W.cell? ⟨w5.heap.size, 3, none⟩ = some (.slice oao2 ono2 oco2) ∧ W.cell? ⟨w0.heap.size, 0, none⟩ = some (.int .i64 i0_0) ∧ W.cell? ⟨w0.heap.size, 1, none⟩ = some (.int .i64 i0_1) ∧ W.cell? ⟨w0.heap.size, 2, none⟩ = some (.slice ga0 gn0 gc0) ∧ W.cell? ⟨w0.heap.size, 3, none⟩ = some (.slice oa0 on0 oc0) ∧ Below w7.heap.size w7 W) → Below W.heap.size W W' → _ := fun W W' h hb => hS7 W' (h.2.2.2.2.2.2.2.2.trans (hb.mono h.2.2.2.2.2.2.2.2.size))
  have HS7 := Lib.hid hS7
  have HT7 := Lib.hid hT7
  clear hS7 hT7
  have HF7 := Lib.hid (show ∀ W, Below w7.heap.size w7 W → (Flat 3 W W.heap.size gao2 gno2 gs0 ∧ Ints W W.heap.size oao2 ono2 os0) from fun W h => ⟨(ho2.1.flat.below h (Nat.le_refl _)).up h.size, (ho2.2.1.ints.below h (Nat.le_refl _)).up h.size⟩)
  have HG7 := Lib.hid (show ∀ W, Below w7.heap.size w7 W → (Flat 3 W W.heap.size ga0 gn0 gs0 ∧ Ints W W.heap.size oa0 on0 os0) from fun W h => ⟨(hFG0.below (hB7.trans (h.mono hB7.size)) (Nat.le_refl _)).up (hB7.trans (h.mono hB7.size)).size, (hFO0.below (hB7.trans (h.mono hB7.size)) (Nat.le_refl _)).up (hB7.trans (h.mono hB7.size)).size⟩)
  obtain ⟨y0o2, y1o2, y2o2, y3o2⟩ := hXo2
  obtain ⟨y0c0, y1c0, y2c0, y3c0⟩ := hXc0
  go_region_held3 (fun w' => w'.cell? ⟨w5.heap.size, 0, none⟩ = some (.int .i64 i0_0) ∧ w'.cell? ⟨w5.heap.size, 1, none⟩ = some (.int .i64 i0_1) ∧ w'.cell? ⟨w5.heap.size, 2, none⟩ = some (.slice gao2 gno2 gco2) ∧ w'.cell? ⟨w5.heap.size, 3, none⟩ = some (.slice oao2 ono2 oco2) ∧ w'.cell? ⟨w0.heap.size, 0, none⟩ = some (.int .i64 i0_0) ∧ w'.cell? ⟨w0.heap.size, 1, none⟩ = some (.int .i64 i0_1) ∧ w'.cell? ⟨w0.heap.size, 2, none⟩ = some (.slice ga0 gn0 gc0) ∧ w'.cell? ⟨w0.heap.size, 3, none⟩ = some (.slice oa0 on0 oc0) ∧ Below w7.heap.size w7 w') (first | exact HS7.out _ (bdrewN (Below.refl _ _) 1) | exact HT7.out _ _ (by assumption) hb8 | exact HT7.out _ _ (by assumption) hb9)
    (first | (go_at_call 19; refine (toCircuit_any _ _ _ _ _ _ _ _ _ _ _ (HG7.out _ (And.right (And.right (And.right (And.right (And.right (And.right (And.right (And.right (by assumption)))))))))).1 (HG7.out _ (And.right (And.right (And.right (And.right (And.right (And.right (And.right (And.right (by assumption)))))))))).2).mono ?_; rintro e w8 ⟨gao4, gno4, gco4, oao4, ono4, oco4, rfl, ho4, hb8⟩) | (go_at_call 21; refine (eqCircuit_any _ _ _ _ _ _ _ _ _ _ _ _ _ _ _ _ _ _ _ _ _ (HF7.out _ (And.right (And.right (And.right (And.right (And.right (And.right (And.right (And.right (by assumption)))))))))).1 (HF7.out _ (And.right (And.right (And.right (And.right (And.right (And.right (And.right (And.right (by assumption)))))))))).2 ho4.1.flat ho4.2.1.ints).mono ?_; rintro e w9 ⟨rfl, hb9⟩; rw [eqCB_self]))
  rename_i hH7
  have hXo2 : BoxC _ _ _ _ _ _ _ _ _ _ := ⟨y0o2, y1o2, y2o2, y3o2⟩
  clear y0o2 y1o2 y2o2 y3o2
  have hXc0 : BoxC _ _ _ _ _ _ _ _ _ _ := ⟨y0c0, y1c0, y2c0, y3c0⟩
  clear y0c0 y1c0 y2c0 y3c0
  replace hb9 := hH7.2.2.2.2.2.2.2.2
  clear hH7
  have hB9 := hB7.trans (hb9.mono hB7.size)
  have hZ9 := hb9.size
  replace ho0 := ho0.below hb9 (Nat.le_refl _)
  replace ho2 := ho2.below hb9 (Nat.le_refl _)
  replace hXc0 := hXc0.below hb9 (by omega)
  replace hXo2 := hXo2.below hb9 (by omega)
  go_wp2_with fail
  go_ret
  exact ⟨rfl, hB9⟩
end Go.Proofs.Ytilkgidilhgjeaa
