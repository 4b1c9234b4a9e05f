/-
  The law on CountCircuit: its walk (printed by gen_lawc.py).
-/
import Derived.Test.YtbdccgodamkljaaMak6
namespace Go.Proofs.Ytbdccgodamkljaa
open Go.RowKit
set_option linter.unusedVariables false
set_option linter.unusedSimpArgs false

set_option maxHeartbeats 4000000 in
theorem walk_FnExactCountCircuit (x0 : Int) (w0 : World)  : Calls Try.prog 5 #[.int .i64 x0] w0 (RetB true w0) := by
  have hB0 : Below w0.heap.size w0 w0 := Below.refl _ _
  obtain ⟨ans, hans⟩ : ∃ r, r = countF x0 := ⟨_, rfl⟩
  have HANS := Lib.hid hans
  clear hans
  go_enter Try.func5, Try.ntmps5
  go_wp2_with fail
  refine (spec_CountCircuit_any _ _).mono ?_
  rintro e w1 ⟨gao0, gno0, gco0, oao0, ono0, oco0, rfl, ho0, hb1⟩
  rw [← HANS.out]
  rw [← HANS.out] at ho0
  unfold circV
  have hB1 := hB0.trans (hb1.mono hB0.size)
  have hZ1 := hb1.size
  have hro0 := ho0.1.rowLt
  have hpo0 := ho0.2.1.rowLt
  have hLo0 := ho0.1.le
  have hMo0 := ho0.2.1.le
  obtain ⟨w2, hN2⟩ : ∃ W, W = w1.alloc (.cells #[.int .i64 ans.1, .int .i64 ans.2.1, .slice gao0 gno0 gco0, .slice oao0 ono0 oco0] 30) := ⟨_, rfl⟩
  have hb2 : Below w1.heap.size w1 w2 := by rw [hN2]; exact (Below.refl _ _).alloc (Nat.le_refl _) _
  have hXo0 : BoxC w2 w1.heap.size (ans.1) (ans.2.1) gao0 gno0 gco0 oao0 ono0 oco0 := by rw [hN2]; exact boxC_new w1 (ans.1) (ans.2.1) gao0 gno0 gco0 oao0 ono0 oco0 30
  have hWo0 : w1.heap.size < w2.heap.size := by rw [hN2]; simp
  have HN2 := Lib.hid hN2
  clear hN2
  have hB2 := hB1.trans (hb2.mono hB1.size)
  have hZ2 := hb2.size
  replace ho0 := ho0.below hb2 (Nat.le_refl _)
  obtain ⟨y0o0, y1o0, y2o0, y3o0⟩ := hXo0
  go_wp2_with (first | rw [← HN2.out])
  have hXo0 : BoxC _ _ _ _ _ _ _ _ _ _ := ⟨y0o0, y1o0, y2o0, y3o0⟩
  clear y0o0 y1o0 y2o0 y3o0
  refine (impl_CountCircuit_any _ _).mono ?_
  rintro e w3 ⟨gao1, gno1, gco1, oao1, ono1, oco1, rfl, ho1, hb3⟩
  rw [← HANS.out]
  rw [← HANS.out] at ho1
  unfold circV
  have hB3 := hB2.trans (hb3.mono hB2.size)
  have hZ3 := hb3.size
  replace ho0 := ho0.below hb3 (Nat.le_refl _)
  replace hXo0 := hXo0.below hb3 (by omega)
  have hro1 := ho1.1.rowLt
  have hpo1 := ho1.2.1.rowLt
  have hLo1 := ho1.1.le
  have hMo1 := ho1.2.1.le
  obtain ⟨w4, hN4⟩ : ∃ W, W = w3.alloc (.cells #[.int .i64 ans.1, .int .i64 ans.2.1, .slice gao1 gno1 gco1, .slice oao1 ono1 oco1] 30) := ⟨_, rfl⟩
  have hb4 : Below w3.heap.size w3 w4 := by rw [hN4]; exact (Below.refl _ _).alloc (Nat.le_refl _) _
  have hXo1 : BoxC w4 w3.heap.size (ans.1) (ans.2.1) gao1 gno1 gco1 oao1 ono1 oco1 := by rw [hN4]; exact boxC_new w3 (ans.1) (ans.2.1) gao1 gno1 gco1 oao1 ono1 oco1 30
  have hWo1 : w3.heap.size < w4.heap.size := by rw [hN4]; simp
  have HN4 := Lib.hid hN4
  clear hN4
  have hB4 := hB3.trans (hb4.mono hB3.size)
  have hZ4 := hb4.size
  replace ho0 := ho0.below hb4 (Nat.le_refl _)
  replace ho1 := ho1.below hb4 (Nat.le_refl _)
  replace hXo0 := hXo0.below hb4 (by omega)
  obtain ⟨y0o0, y1o0, y2o0, y3o0⟩ := hXo0
  obtain ⟨y0o1, y1o1, y2o1, y3o1⟩ := hXo1
  go_wp2_with (first | rw [← HN4.out])
  have hXo0 : BoxC _ _ _ _ _ _ _ _ _ _ := ⟨y0o0, y1o0, y2o0, y3o0⟩
  clear y0o0 y1o0 y2o0 y3o0
  have hXo1 : BoxC _ _ _ _ _ _ _ _ _ _ := ⟨y0o1, y1o1, y2o1, y3o1⟩
  clear y0o1 y1o1 y2o1 y3o1
  refine (eqCircuit_any _ _ _ _ _ _ _ _ _ _ _ _ _ _ _ _ _ _ _ _ _ ho1.1.flat ho1.2.1.ints ho0.1.flat ho0.2.1.ints).mono ?_
  rintro e w5 ⟨rfl, hb5⟩
  rw [eqCB_self]
  have hB5 := hB4.trans (hb5.mono hB4.size)
  have hZ5 := hb5.size
  replace ho0 := ho0.below hb5 (Nat.le_refl _)
  replace ho1 := ho1.below hb5 (Nat.le_refl _)
  replace hXo0 := hXo0.below hb5 (by omega)
  replace hXo1 := hXo1.below hb5 (by omega)
  obtain ⟨y0o0, y1o0, y2o0, y3o0⟩ := hXo0
  obtain ⟨y0o1, y1o1, y2o1, y3o1⟩ := hXo1
  go_wp2_with fail
  have hXo0 : BoxC _ _ _ _ _ _ _ _ _ _ := ⟨y0o0, y1o0, y2o0, y3o0⟩
  clear y0o0 y1o0 y2o0 y3o0
  have hXo1 : BoxC _ _ _ _ _ _ _ _ _ _ := ⟨y0o1, y1o1, y2o1, y3o1⟩
  clear y0o1 y1o1 y2o1 y3o1
  refine (markCircuit_any _ _ _ _ _ _ _ _ _ _ 1 _ _ ho1 (by omega) (by omega) (by omega)).mono ?_
  rintro e w6 ⟨rfl, hm6, u6, hg6, hk6⟩
  have hC6 : Below w0.heap.size w0 u6 := hB5.grown hg6 hB5.size (fun k hk => by have := hro1 k hk; omega)
  have hB6 : Below w0.heap.size w0 w6 := hC6.grown hk6 hC6.size (fun k hk => by have := hpo1 k hk; omega)
  have hZ6 := Nat.le_trans hg6.size hk6.size
  have hY6 := hg6.size
  have hV6 := hk6.size
  replace ho0 := ho0.other hg6 (fun k l h1 h2 => by have := hro0 k h1; have := hro1 l h2; omega) (fun k l h1 h2 => by have := hpo0 k h1; have := hro1 l h2; omega)
  replace hXo0 := hXo0.other hg6 (by omega) (fun l h2 => by have := hro1 l h2; omega)
  replace hXo1 := hXo1.other hg6 (by omega) (fun l h2 => by have := hro1 l h2; omega)
  replace ho0 := ho0.other hk6 (fun k l h1 h2 => by have := hro0 k h1; have := hpo1 l h2; omega) (fun k l h1 h2 => by have := hpo0 k h1; have := hpo1 l h2; omega)
  replace hXo0 := hXo0.other hk6 (by omega) (fun l h2 => by have := hpo1 l h2; omega)
  replace hXo1 := hXo1.other hk6 (by omega) (fun l h2 => by have := hpo1 l h2; omega)
  replace ho1 := hm6
  clear hm6
  obtain ⟨y0o0, y1o0, y2o0, y3o0⟩ := hXo0
  obtain ⟨y0o1, y1o1, y2o1, y3o1⟩ := hXo1
  go_wp2_with fail
  have hXo0 : BoxC _ _ _ _ _ _ _ _ _ _ := ⟨y0o0, y1o0, y2o0, y3o0⟩
  clear y0o0 y1o0 y2o0 y3o0
  have hXo1 : BoxC _ _ _ _ _ _ _ _ _ _ := ⟨y0o1, y1o1, y2o1, y3o1⟩
  clear y0o1 y1o1 y2o1 y3o1
  refine (heldCircuit_any _ _ _ _ _ _ _ _ _ 1 _ _ ho1.1.flat ho1.2.1.ints (by omega) (by omega) (marks_held _ _) (marks_held _ _)).mono ?_
  rintro e w7 ⟨rfl, hb7⟩
  have hB7 := hB6.trans (hb7.mono hB6.size)
  have hZ7 := hb7.size
  replace ho0 := ho0.below hb7 (Nat.le_refl _)
  replace ho1 := ho1.below hb7 (Nat.le_refl _)
  replace hXo0 := hXo0.below hb7 (by omega)
  replace hXo1 := hXo1.below hb7 (by omega)
  obtain ⟨y0o0, y1o0, y2o0, y3o0⟩ := hXo0
  obtain ⟨y0o1, y1o1, y2o1, y3o1⟩ := hXo1
  go_wp2_with fail
  have hXo0 : BoxC _ _ _ _ _ _ _ _ _ _ := ⟨y0o0, y1o0, y2o0, y3o0⟩
  clear y0o0 y1o0 y2o0 y3o0
  have hXo1 : BoxC _ _ _ _ _ _ _ _ _ _ := ⟨y0o1, y1o1, y2o1, y3o1⟩
  clear y0o1 y1o1 y2o1 y3o1
  refine (impl_CountCircuit_any _ _).mono ?_
  rintro e w8 ⟨gao2, gno2, gco2, oao2, ono2, oco2, rfl, ho2, hb8⟩
  rw [← HANS.out]
  rw [← HANS.out] at ho2
  unfold circV
  have hB8 := hB7.trans (hb8.mono hB7.size)
  have hZ8 := hb8.size
  replace ho0 := ho0.below hb8 (Nat.le_refl _)
  replace ho1 := ho1.below hb8 (Nat.le_refl _)
  replace hXo0 := hXo0.below hb8 (by omega)
  replace hXo1 := hXo1.below hb8 (by omega)
  have hro2 := ho2.1.rowLt
  have hpo2 := ho2.2.1.rowLt
  have hLo2 := ho2.1.le
  have hMo2 := ho2.2.1.le
  obtain ⟨w9, hN9⟩ : ∃ W, W = w8.alloc (.cells #[.int .i64 ans.1, .int .i64 ans.2.1, .slice gao2 gno2 gco2, .slice oao2 ono2 oco2] 30) := ⟨_, rfl⟩
  have hb9 : Below w8.heap.size w8 w9 := by rw [hN9]; exact (Below.refl _ _).alloc (Nat.le_refl _) _
  have hXo2 : BoxC w9 w8.heap.size (ans.1) (ans.2.1) gao2 gno2 gco2 oao2 ono2 oco2 := by rw [hN9]; exact boxC_new w8 (ans.1) (ans.2.1) gao2 gno2 gco2 oao2 ono2 oco2 30
  have hWo2 : w8.heap.size < w9.heap.size := by rw [hN9]; simp
  have HN9 := Lib.hid hN9
  clear hN9
  have hB9 := hB8.trans (hb9.mono hB8.size)
  have hZ9 := hb9.size
  replace ho0 := ho0.below hb9 (Nat.le_refl _)
  replace ho1 := ho1.below hb9 (Nat.le_refl _)
  replace ho2 := ho2.below hb9 (Nat.le_refl _)
  replace hXo0 := hXo0.below hb9 (by omega)
  replace hXo1 := hXo1.below hb9 (by omega)
  obtain ⟨y0o0, y1o0, y2o0, y3o0⟩ := hXo0
  obtain ⟨y0o1, y1o1, y2o1, y3o1⟩ := hXo1
  obtain ⟨y0o2, y1o2, y2o2, y3o2⟩ := hXo2
  go_wp2_with (first | rw [← HN9.out])
  have hXo0 : BoxC _ _ _ _ _ _ _ _ _ _ := ⟨y0o0, y1o0, y2o0, y3o0⟩
  clear y0o0 y1o0 y2o0 y3o0
  have hXo1 : BoxC _ _ _ _ _ _ _ _ _ _ := ⟨y0o1, y1o1, y2o1, y3o1⟩
  clear y0o1 y1o1 y2o1 y3o1
  have hXo2 : BoxC _ _ _ _ _ _ _ _ _ _ := ⟨y0o2, y1o2, y2o2, y3o2⟩
  clear y0o2 y1o2 y2o2 y3o2
  refine (eqCircuit_any _ _ _ _ _ _ _ _ _ _ _ _ _ _ _ _ _ _ _ _ _ ho2.1.flat ho2.2.1.ints ho0.1.flat ho0.2.1.ints).mono ?_
  rintro e w10 ⟨rfl, hb10⟩
  rw [eqCB_self]
  have hB10 := hB9.trans (hb10.mono hB9.size)
  have hZ10 := hb10.size
  replace ho0 := ho0.below hb10 (Nat.le_refl _)
  replace ho1 := ho1.below hb10 (Nat.le_refl _)
  replace ho2 := ho2.below hb10 (Nat.le_refl _)
  replace hXo0 := hXo0.below hb10 (by omega)
  replace hXo1 := hXo1.below hb10 (by omega)
  replace hXo2 := hXo2.below hb10 (by omega)
  obtain ⟨y0o0, y1o0, y2o0, y3o0⟩ := hXo0
  obtain ⟨y0o1, y1o1, y2o1, y3o1⟩ := hXo1
  obtain ⟨y0o2, y1o2, y2o2, y3o2⟩ := hXo2
  go_wp2_with fail
  have hXo0 : BoxC _ _ _ _ _ _ _ _ _ _ := ⟨y0o0, y1o0, y2o0, y3o0⟩
  clear y0o0 y1o0 y2o0 y3o0
  have hXo1 : BoxC _ _ _ _ _ _ _ _ _ _ := ⟨y0o1, y1o1, y2o1, y3o1⟩
  clear y0o1 y1o1 y2o1 y3o1
  have hXo2 : BoxC _ _ _ _ _ _ _ _ _ _ := ⟨y0o2, y1o2, y2o2, y3o2⟩
  clear y0o2 y1o2 y2o2 y3o2
  refine (heldCircuit_any _ _ _ _ _ _ _ _ _ 1 _ _ ho1.1.flat ho1.2.1.ints (by omega) (by omega) (marks_held _ _) (marks_held _ _)).mono ?_
  rintro e w11 ⟨rfl, hb11⟩
  have hB11 := hB10.trans (hb11.mono hB10.size)
  have hZ11 := hb11.size
  replace ho0 := ho0.below hb11 (Nat.le_refl _)
  replace ho1 := ho1.below hb11 (Nat.le_refl _)
  replace ho2 := ho2.below hb11 (Nat.le_refl _)
  replace hXo0 := hXo0.below hb11 (by omega)
  replace hXo1 := hXo1.below hb11 (by omega)
  replace hXo2 := hXo2.below hb11 (by omega)
  go_wp2_with fail
  go_ret
  exact ⟨rfl, hB11⟩
end Go.Proofs.Ytbdccgodamkljaa
