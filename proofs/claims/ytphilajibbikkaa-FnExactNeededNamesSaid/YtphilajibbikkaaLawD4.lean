/-
  Walks of laws over programs (printed by gen_lawd.py).
-/
import Derived.Test.YtphilajibbikkaaNn1
import Derived.Test.YtphilajibbikkaaMk4
namespace Go.Proofs.Ytphilajibbikkaa
open Go.RowKit
set_option linter.unusedVariables false
set_option linter.unusedSimpArgs false

set_option maxRecDepth 20000 in
set_option maxHeartbeats 4000000 in
theorem walk_FnExactNeededNames (a0 : Option Addr) (n0 c0 : Nat) (z0 : List Ln)  (w0 : World) (hA : LnsArg w0 a0 n0 z0) : Calls Try.prog 7 #[.slice a0 n0 c0] w0 (RetB true w0) := by
  go_enter Try.func7, Try.ntmps7
  go_wp2_with fail
  refine (szLineS_any _ _ _ _ _ _ hA (by omega) (by omega)).mono ?_
  rintro e w1 ⟨r, rfl, hr1, hr2, hb1⟩
  by_cases hr : r < 0
  · go_wp2_with fail
    go_ret
    exact ⟨rfl, hb1⟩
  have hnr : ¬ r < 0 := hr
  obtain ⟨hS, hsum⟩ := hr2 (by omega)
  have HS := Lib.hid hS
  obtain rfl : z0.length = n0 := hA.1
  have hn20 : z0.length ≤ 1048576 := by omega
  have HSUM : Hid (z0.length + partsSum z0 ≤ 1048576) := by show _ ≤ _; omega
  have HL := Lib.hid (hA.lns hn20 hS)
  clear hS hr2 hA hsum
  have hB1 := hb1
  have hZ1 := hb1.size
  obtain ⟨ans, hans⟩ : ∃ r, r = namesF z0 := ⟨_, rfl⟩
  have HANS := Lib.hid hans
  clear hans
  go_wp2_with fail
  refine (toLineS_any _ _ _ _ _ ((HL.out.below hB1 (Nat.le_refl _)).up hB1.size) HS.out hn20).mono ?_
  rintro e w2 ⟨rfl, hx0, hb2⟩
  have hB2 := hB1.trans (hb2.mono hB1.size)
  have hZ2 := hb2.size
  have hGhx0 := hx0.2.2.1
  go_wp2_with fail
  refine (spec_NeededNames_any _ _ _ _ _  hx0.lns HS.out hn20 (Nat.le_refl _)).mono ?_
  rintro e w3 ⟨oa1, on1, oc1, rfl, ho1, hb3⟩
  rw [← HANS.out]
  rw [← HANS.out] at ho1
  obtain rfl : ans.1.length = on1 := ho1.1
  have hB3 := hB2.trans (hb3.mono hB2.size)
  have hZ3 := hb3.size
  replace hx0 := hx0.below hb3 (Nat.le_refl _)
  have hrho1 := ho1.rowLt
  have hLho1 := ho1.le
  have hLBho1 := namesF_len HANS.out ho1.1
  go_wp2_with fail
  refine (toLineS_any _ _ _ _ _ ((HL.out.below hB3 (Nat.le_refl _)).up hB3.size) HS.out hn20).mono ?_
  rintro e w4 ⟨rfl, hx2, hb4⟩
  have hB4 := hB3.trans (hb4.mono hB3.size)
  have hZ4 := hb4.size
  replace hx0 := hx0.below hb4 (Nat.le_refl _)
  replace ho1 := ho1.below hb4 (Nat.le_refl _)
  have hGhx2 := hx2.2.2.1
  obtain ⟨hs, hsl, hWL⟩ := hx2.wl (Nat.le_refl _)
  go_wp2_with fail
  refine (impl_NeededNames_any _ _ _ _ _  hx2.lns HS.out (Nat.le_refl _)).mono ?_
  rintro e w5 ⟨oa3, on3, oc3, rfl, ho3, hb5⟩
  rw [← HANS.out]
  rw [← HANS.out] at ho3
  obtain rfl : ans.1.length = on3 := ho3.1
  have hB5 := hB4.trans (hb5.mono hB4.size)
  have hZ5 := hb5.size
  replace hx0 := hx0.below hb5 (Nat.le_refl _)
  replace ho1 := ho1.below hb5 (Nat.le_refl _)
  replace hx2 := hx2.below hb5 (Nat.le_refl _)
  replace hWL := hWL.below hb5 hWL.size
  have hrho3 := ho3.rowLt
  have hLho3 := ho3.le
  have hLBho3 := namesF_len HANS.out ho3.1
  go_wp2_with fail
  refine (eqStringS_same _ _ _ _ _ _ _ _ _ ho3.strs ho1.strs (Nat.le_refl _) (Nat.le_refl _)).mono ?_
  rintro e w6 ⟨rfl, hb6⟩
  have hB6 := hB5.trans (hb6.mono hB5.size)
  have hZ6 := hb6.size
  replace hx0 := hx0.below hb6 (Nat.le_refl _)
  replace ho1 := ho1.below hb6 (Nat.le_refl _)
  replace hx2 := hx2.below hb6 (Nat.le_refl _)
  replace ho3 := ho3.below hb6 (Nat.le_refl _)
  replace hWL := hWL.below hb6 hWL.size
  go_wp2_with fail
  refine (toLineS_any _ _ _ _ _ ((HL.out.below hB6 (Nat.le_refl _)).up hB6.size) HS.out hn20).mono ?_
  rintro e w7 ⟨rfl, hx4, hb7⟩
  have hB7 := hB6.trans (hb7.mono hB6.size)
  have hZ7 := hb7.size
  replace hx0 := hx0.below hb7 (Nat.le_refl _)
  replace ho1 := ho1.below hb7 (Nat.le_refl _)
  replace hx2 := hx2.below hb7 (Nat.le_refl _)
  replace ho3 := ho3.below hb7 (Nat.le_refl _)
  replace hWL := hWL.below hb7 hWL.size
  have hGhx4 := hx4.2.2.1
  go_wp2_with fail
  refine (eqLineS_same _ _ _ _ _ _ _ _ _ hx2.lns hx4.lns (Nat.le_refl _) (Nat.le_refl _)).mono ?_
  rintro e w8 ⟨rfl, hb8⟩
  have hB8 := hB7.trans (hb8.mono hB7.size)
  have hZ8 := hb8.size
  replace hx0 := hx0.below hb8 (Nat.le_refl _)
  replace ho1 := ho1.below hb8 (Nat.le_refl _)
  replace hx2 := hx2.below hb8 (Nat.le_refl _)
  replace ho3 := ho3.below hb8 (Nat.le_refl _)
  replace hx4 := hx4.below hb8 (Nat.le_refl _)
  replace hWL := hWL.below hb8 hWL.size
  go_wp2_with fail
  refine (markLineS_wl _ _ _ _ z0 hs hWL hsl _ HS.out HSUM.out).mono ?_
  rintro e w9 ⟨Q, rfl, hQ, hke⟩
  have hB9 := hB8.trans ((hke.below (by omega)).mono (by omega))
  have hZ9 := hke.size
  replace ho1 := hke.ownSt ho1 (fun b hb => .inl (by have := hrho1 b hb; omega))
  replace ho3 := hke.ownSt ho3 (fun b hb => .inr (by have := hrho3 b hb; omega))
  clear hWL hx2 hx4
  go_wp2_with fail
  refine (eqStringS_same _ _ _ _ _ _ _ _ _ ho3.strs ho1.strs (Nat.le_refl _) (Nat.le_refl _)).mono ?_
  rintro e w10 ⟨rfl, hb10⟩
  have hB10 := hB9.trans (hb10.mono hB9.size)
  have hZ10 := hb10.size
  replace ho1 := ho1.below hb10 (Nat.le_refl _)
  replace ho3 := ho3.below hb10 (Nat.le_refl _)
  go_wp2_with fail
  refine (markStringS_any _ _ _ _ _ 1 _ ho3 (by omega) hLBho3).mono ?_
  rintro e w11 ⟨rfl, hm, hg⟩
  have hB11 := hB10.trans ((hg.below (by omega)).mono (by omega))
  have hZ11 := hg.size
  replace ho1 := hg.ownSt ho1 (fun b hb => .inl (by have := hrho1 b hb; omega))
  replace ho3 := hm
  clear hm
  go_wp2_with fail
  refine (heldStringS_any _ _ _ _ _ 1 ho3.strs (Nat.le_refl _) (by omega) hLBho3).mono ?_
  rintro e w12 ⟨rfl, hb12⟩
  have hB12 := hB11.trans (hb12.mono hB11.size)
  have hZ12 := hb12.size
  replace ho1 := ho1.below hb12 (Nat.le_refl _)
  replace ho3 := ho3.below hb12 (Nat.le_refl _)
  go_wp2_with fail
  refine (toLineS_any _ _ _ _ _ ((HL.out.below hB12 (Nat.le_refl _)).up hB12.size) HS.out hn20).mono ?_
  rintro e w13 ⟨rfl, hx5, hb13⟩
  have hB13 := hB12.trans (hb13.mono hB12.size)
  have hZ13 := hb13.size
  replace ho1 := ho1.below hb13 (Nat.le_refl _)
  replace ho3 := ho3.below hb13 (Nat.le_refl _)
  have hGhx5 := hx5.2.2.1
  go_wp2_with fail
  refine (impl_NeededNames_any _ _ _ _ _  hx5.lns HS.out (Nat.le_refl _)).mono ?_
  rintro e w14 ⟨oa6, on6, oc6, rfl, ho6, hb14⟩
  rw [← HANS.out]
  rw [← HANS.out] at ho6
  obtain rfl : ans.1.length = on6 := ho6.1
  have hB14 := hB13.trans (hb14.mono hB13.size)
  have hZ14 := hb14.size
  replace ho1 := ho1.below hb14 (Nat.le_refl _)
  replace ho3 := ho3.below hb14 (Nat.le_refl _)
  replace hx5 := hx5.below hb14 (Nat.le_refl _)
  have hrho6 := ho6.rowLt
  have hLho6 := ho6.le
  have hLBho6 := namesF_len HANS.out ho6.1
  go_wp2_with fail
  refine (eqStringS_same _ _ _ _ _ _ _ _ _ ho6.strs ho1.strs (Nat.le_refl _) (Nat.le_refl _)).mono ?_
  rintro e w15 ⟨rfl, hb15⟩
  have hB15 := hB14.trans (hb15.mono hB14.size)
  have hZ15 := hb15.size
  replace ho1 := ho1.below hb15 (Nat.le_refl _)
  replace ho3 := ho3.below hb15 (Nat.le_refl _)
  replace hx5 := hx5.below hb15 (Nat.le_refl _)
  replace ho6 := ho6.below hb15 (Nat.le_refl _)
  go_wp2_with fail
  refine (heldStringS_any _ _ _ _ _ 1 ho3.strs (Nat.le_refl _) (by omega) hLBho3).mono ?_
  rintro e w16 ⟨rfl, hb16⟩
  have hB16 := hB15.trans (hb16.mono hB15.size)
  have hZ16 := hb16.size
  replace ho1 := ho1.below hb16 (Nat.le_refl _)
  replace ho3 := ho3.below hb16 (Nat.le_refl _)
  replace hx5 := hx5.below hb16 (Nat.le_refl _)
  replace ho6 := ho6.below hb16 (Nat.le_refl _)
  go_wp2_with fail
  go_ret
  exact ⟨rfl, hB16⟩
end Go.Proofs.Ytphilajibbikkaa
