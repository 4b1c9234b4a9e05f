/-
  The walk of FnExactTrimProgram (printed by XLawD6.py).
-/
import Derived.Test.YtglehpmaniabbaaTr2
namespace Go.Proofs.Ytglehpmaniabbaa
open Go.RowKit
set_option linter.unusedVariables false
set_option linter.unusedSimpArgs false

set_option maxRecDepth 20000 in
set_option maxHeartbeats 4000000 in
theorem walk_FnExactTrimProgram (a0 : Option Addr) (n0 c0 : Nat) (z0 : List Ln) (w0 : World) (hA : LnsArg w0 a0 n0 z0) : Calls Try.prog 3 #[.slice a0 n0 c0] w0 (RetB true w0) := by
  go_enter Try.func3, Try.ntmps3
  go_wp2_with fail
  refine (szLineS_any _ _ _ _ _ _ hA (by omega) (by omega)).mono ?_
  rintro e w1 ⟨r, rfl, hr1, hr2, hb1⟩
  by_cases hr : r < 0
  · go_wp2_with fail
    go_ret
    exact ⟨rfl, hb1⟩
  have hnr : ¬ r < 0 := hr
  obtain ⟨hS, hsum⟩ := hr2 (by omega)
  have HS := Lib.hid hS
  obtain rfl : z0.length = n0 := hA.1
  have hn20 : z0.length ≤ 1048576 := by omega
  have HSUM : Hid (z0.length + partsSum z0 ≤ 1048576) := by show _ ≤ _; omega
  have HL := Lib.hid (hA.lns hn20 hS)
  clear hS hr2 hA hsum
  have hB1 := hb1
  have hZ1 := hb1.size
  obtain ⟨ans, hans⟩ : ∃ r, r = trimF z0 := ⟨_, rfl⟩
  have HOKA := Lib.hid (trimF_ok HS.out HSUM.out hans)
  have HANS := Lib.hid hans
  clear hans
  have hla : ans.1.length ≤ 1048576 := by have := HOKA.out.2; omega
  go_wp2_with fail
  refine (toLineS_any _ _ _ _ _ ((HL.out.below hB1 (Nat.le_refl _)).up hB1.size) HS.out hn20).mono ?_
  rintro e w2 ⟨rfl, hx1, hb2⟩
  have hB2 := hB1.trans (hb2.mono hB1.size)
  have hZ2 := hb2.size
  go_wp2_with fail
  refine (spec_TrimProgram_any _ _ _ _ _ hx1.lns HS.out hn20 (Nat.le_refl _)).mono ?_
  rintro e w3 ⟨oa1, on1, oc1, hs1, rfl, ho1, hb3⟩
  rw [← HANS.out]
  rw [← HANS.out] at ho1
  obtain rfl : ans.1.length = on1 := ho1.len
  have hB3 := hB2.trans (hb3.mono hB2.size)
  have hZ3 := hb3.size
  replace hx1 := hx1.below hb3 (Nat.le_refl _)
  have hW := ho1.lns
  clear hx1 ho1
  go_wp2_with fail
  refine (toLineS_any _ _ _ _ _ ((HL.out.below hB3 (Nat.le_refl _)).up hB3.size) HS.out hn20).mono ?_
  rintro e w4 ⟨rfl, hx0, hb4⟩
  have hB4 := hB3.trans (hb4.mono hB3.size)
  have hZ4 := hb4.size
  replace hW := hW.below hb4 (by omega)
  obtain ⟨hsx, hsl, hWL⟩ := hx0.wl (Nat.le_refl _)
  go_wp2_with fail
  refine (impl_TrimProgram_any _ _ _ _ _ hx0.lns HS.out (Nat.le_refl _)).mono ?_
  rintro e w5 ⟨oa2, on2, oc2, hs2, rfl, hT, hb5⟩
  rw [← HANS.out]
  rw [← HANS.out] at hT
  obtain rfl : ans.1.length = on2 := hT.len
  have hB5 := hB4.trans (hb5.mono hB4.size)
  have hZ5 := hb5.size
  replace hW := hW.below hb5 (by omega)
  replace hx0 := hx0.below hb5 (Nat.le_refl _)
  replace hWL := hWL.below hb5 hWL.size
  go_wp2_with fail
  refine (eqLineS_same _ _ _ _ _ _ _ _ _ hT.lns hW (by omega) (by omega)).mono ?_
  rintro e w6 ⟨rfl, hb6⟩
  have hB6 := hB5.trans (hb6.mono hB5.size)
  have hZ6 := hb6.size
  replace hW := hW.below hb6 (by omega)
  replace hx0 := hx0.below hb6 (Nat.le_refl _)
  replace hWL := hWL.below hb6 hWL.size
  replace hT := hT.below hb6 (Nat.le_refl _)
  go_wp2_with fail
  refine (toLineS_any _ _ _ _ _ ((HL.out.below hB6 (Nat.le_refl _)).up hB6.size) HS.out hn20).mono ?_
  rintro e w7 ⟨rfl, hx2, hb7⟩
  have hB7 := hB6.trans (hb7.mono hB6.size)
  have hZ7 := hb7.size
  replace hW := hW.below hb7 (by omega)
  replace hx0 := hx0.below hb7 (Nat.le_refl _)
  replace hWL := hWL.below hb7 hWL.size
  replace hT := hT.below hb7 (Nat.le_refl _)
  go_wp2_with fail
  refine (eqLineS_same _ _ _ _ _ _ _ _ _ hx0.lns hx2.lns (by omega) (by omega)).mono ?_
  rintro e w8 ⟨rfl, hb8⟩
  have hB8 := hB7.trans (hb8.mono hB7.size)
  have hZ8 := hb8.size
  replace hW := hW.below hb8 (by omega)
  replace hx0 := hx0.below hb8 (Nat.le_refl _)
  replace hWL := hWL.below hb8 hWL.size
  replace hT := hT.below hb8 (Nat.le_refl _)
  replace hx2 := hx2.below hb8 (Nat.le_refl _)
  go_wp2_with fail
  refine (markLineS_wl _ _ _ _ z0 hsx hWL hsl _ HS.out HSUM.out).mono ?_
  rintro e w9 ⟨Q, rfl, hQ, hke⟩
  have hB9 := hB8.trans ((hke.below (by omega)).mono (by omega))
  have hZ9 := hke.size
  replace hW := hW.below (hke.below (by omega)) (by omega)
  replace hT := hT.kept hke (by omega)
  clear hWL hx0 hx2
  go_wp2_with fail
  refine (eqLineS_same _ _ _ _ _ _ _ _ _ hT.lns hW (by omega) (by omega)).mono ?_
  rintro e w10 ⟨rfl, hb10⟩
  have hB10 := hB9.trans (hb10.mono hB9.size)
  have hZ10 := hb10.size
  replace hW := hW.below hb10 (by omega)
  replace hT := hT.below hb10 (Nat.le_refl _)
  obtain ⟨Q1, hQ1⟩ : ∃ Q, Q = 1 + 6 * ans.1.length + partsSum ans.1 := ⟨_, rfl⟩
  have HQ1 := Lib.hid hQ1
  clear hQ1
  go_wp2_with fail
  refine (markLineS_t _ _ _ _ _ _ _ hT (by omega) HOKA.out.1 HOKA.out.2).mono ?_
  rintro e w11 ⟨rfl, hm, hb11⟩
  rw [← HQ1.out]
  have hB11 := hB10.trans (hb11.mono (by omega))
  have hZ11 := hb11.size
  replace hW := hW.below hb11 (by omega)
  replace hT := hm
  clear hm
  go_wp2_with fail
  refine (heldLineS_any _ _ _ _ _ _ hT.lns (Nat.le_refl _) HOKA.out.1 HOKA.out.2).mono ?_
  rintro e w12 ⟨rfl, hb12⟩
  rw [← HQ1.out]
  have hB12 := hB11.trans (hb12.mono hB11.size)
  have hZ12 := hb12.size
  replace hW := hW.below hb12 (by omega)
  replace hT := hT.below hb12 (Nat.le_refl _)
  go_wp2_with fail
  refine (toLineS_any _ _ _ _ _ ((HL.out.below hB12 (Nat.le_refl _)).up hB12.size) HS.out hn20).mono ?_
  rintro e w13 ⟨rfl, hz, hb13⟩
  have hB13 := hB12.trans (hb13.mono hB12.size)
  have hZ13 := hb13.size
  replace hW := hW.below hb13 (by omega)
  replace hT := hT.below hb13 (Nat.le_refl _)
  go_wp2_with fail
  refine (impl_TrimProgram_any _ _ _ _ _ hz.lns HS.out (Nat.le_refl _)).mono ?_
  rintro e w14 ⟨oa3, on3, oc3, hs3, rfl, hT2, hb14⟩
  rw [← HANS.out]
  rw [← HANS.out] at hT2
  obtain rfl : ans.1.length = on3 := hT2.len
  have hB14 := hB13.trans (hb14.mono hB13.size)
  have hZ14 := hb14.size
  replace hW := hW.below hb14 (by omega)
  replace hT := hT.below hb14 (Nat.le_refl _)
  replace hz := hz.below hb14 (Nat.le_refl _)
  clear hz
  go_wp2_with fail
  refine (eqLineS_same _ _ _ _ _ _ _ _ _ hT2.lns hW (by omega) (by omega)).mono ?_
  rintro e w15 ⟨rfl, hb15⟩
  have hB15 := hB14.trans (hb15.mono hB14.size)
  have hZ15 := hb15.size
  replace hW := hW.below hb15 (by omega)
  replace hT := hT.below hb15 (Nat.le_refl _)
  replace hT2 := hT2.below hb15 (Nat.le_refl _)
  go_wp2_with fail
  refine (heldLineS_any _ _ _ _ _ _ hT.lns (Nat.le_refl _) HOKA.out.1 HOKA.out.2).mono ?_
  rintro e w16 ⟨rfl, hb16⟩
  rw [← HQ1.out]
  have hB16 := hB15.trans (hb16.mono hB15.size)
  have hZ16 := hb16.size
  replace hW := hW.below hb16 (by omega)
  replace hT := hT.below hb16 (Nat.le_refl _)
  replace hT2 := hT2.below hb16 (Nat.le_refl _)
  go_wp2_with fail
  go_ret
  exact ⟨rfl, hB16⟩
end Go.Proofs.Ytglehpmaniabbaa
