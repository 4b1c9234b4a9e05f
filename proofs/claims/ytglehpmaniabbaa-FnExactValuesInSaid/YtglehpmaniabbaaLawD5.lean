/-
  Walks of laws over programs (printed by gen_lawd.py).
-/
import Derived.Test.YtglehpmaniabbaaVa7
import Derived.Test.YtglehpmaniabbaaMk3
import Derived.Test.YtglehpmaniabbaaLs5
namespace Go.Proofs.Ytglehpmaniabbaa
open Go.RowKit
set_option linter.unusedVariables false
set_option linter.unusedSimpArgs false

set_option maxRecDepth 20000 in
set_option maxHeartbeats 4000000 in
theorem walk_FnExactValuesIn (a0 : Option Addr) (n0 c0 : Nat) (z0 : List Ln) (ps1 : Option Addr) (ms1 ds1 : Nat) (s1 : List Int) (ps2 : Option Addr) (ms2 ds2 : Nat) (s2 : List Int) (w0 : World) (hA : LnsArg w0 a0 n0 z0) (hI_s1 : IntsArg w0 ps1 ms1 s1) (hI_s2 : IntsArg w0 ps2 ms2 s2) : Calls Try.prog 4 #[.slice a0 n0 c0, .slice ps1 ms1 ds1, .slice ps2 ms2 ds2] w0 (RetB true w0) := by
  have hM_s1 := hI_s1.2.1
  unfold maxLen at hM_s1
  by_cases hg_s1 : ms1 ≤ 1048576
  rotate_left
  · have hg' : ¬ (ms1 : Int) ≤ 1048576 := by omega
    have hg2 : (1048576 : Int) < ms1 := by omega
    go_enter Try.func4, Try.ntmps4
    go_wp2_with fail
    go_ret
    exact ⟨rfl, Below.refl _ _⟩
  have hg'_s1 : (ms1 : Int) ≤ 1048576 := by omega
  have hg2_s1 : ¬ (1048576 : Int) < ms1 := by omega
  have hM_s2 := hI_s2.2.1
  unfold maxLen at hM_s2
  by_cases hg_s2 : ms2 ≤ 1048576
  rotate_left
  · have hg' : ¬ (ms2 : Int) ≤ 1048576 := by omega
    have hg2 : (1048576 : Int) < ms2 := by omega
    go_enter Try.func4, Try.ntmps4
    go_wp2_with fail
    go_ret
    exact ⟨rfl, Below.refl _ _⟩
  have hg'_s2 : (ms2 : Int) ≤ 1048576 := by omega
  have hg2_s2 : ¬ (1048576 : Int) < ms2 := by omega
  go_enter Try.func4, Try.ntmps4
  go_wp2_with fail
  refine (szLineS_any _ _ _ _ _ _ hA (by omega) (by omega)).mono ?_
  rintro e w1 ⟨r, rfl, hr1, hr2, hb1⟩
  by_cases hr : r < 0
  · go_wp2_with fail
    go_ret
    exact ⟨rfl, hb1⟩
  have hnr : ¬ r < 0 := hr
  obtain ⟨hS, hsum⟩ := hr2 (by omega)
  have HS := Lib.hid hS
  obtain rfl : z0.length = n0 := hA.1
  have hn20 : z0.length ≤ 1048576 := by omega
  have HSUM : Hid (z0.length + partsSum z0 ≤ 1048576) := by show _ ≤ _; omega
  have HL := Lib.hid (hA.lns hn20 hS)
  clear hS hr2 hA hsum
  have HI_s1 := Lib.hid (hI_s1.ints (by omega))
  have HI_s2 := Lib.hid (hI_s2.ints (by omega))
  have hB1 := hb1
  have hZ1 := hb1.size
  obtain ⟨ans, hans⟩ : ∃ r, r = valF z0 s1 s2 := ⟨_, rfl⟩
  have HANS := Lib.hid hans
  clear hans
  go_wp2_with fail
  refine (toLineS_any _ _ _ _ _ ((HL.out.below hB1 (Nat.le_refl _)).up hB1.size) HS.out hn20).mono ?_
  rintro e w2 ⟨rfl, hx0, hb2⟩
  have hB2 := hB1.trans (hb2.mono hB1.size)
  have hZ2 := hb2.size
  have hGhx0 := hx0.2.2.1
  go_wp2_with fail
  refine (toIntS_any _ _ _ _ _ ((HI_s1.out.below hB2 (Nat.le_refl _)).up hB2.size)).mono ?_
  rintro e w3 ⟨ia1, in1, ic1, rfl, hi1, hb3⟩
  have hB3 := hB2.trans (hb3.mono hB2.size)
  have hZ3 := hb3.size
  replace hx0 := hx0.below hb3 (Nat.le_refl _)
  have hrhi1 := hi1.rowLt
  have hLhi1 := hi1.le
  go_wp2_with fail
  refine (toIntS_any _ _ _ _ _ ((HI_s2.out.below hB3 (Nat.le_refl _)).up hB3.size)).mono ?_
  rintro e w4 ⟨ia2, in2, ic2, rfl, hi2, hb4⟩
  have hB4 := hB3.trans (hb4.mono hB3.size)
  have hZ4 := hb4.size
  replace hx0 := hx0.below hb4 (Nat.le_refl _)
  replace hi1 := hi1.below hb4 (Nat.le_refl _)
  have hrhi2 := hi2.rowLt
  have hLhi2 := hi2.le
  go_wp2_with fail
  refine (spec_ValuesIn_any _ _ _ _ _ _ _ _ _ _ _ _ _ hx0.lns HS.out hn20 (Nat.le_refl _) hi1.ints hi2.ints (ownI_capLe hi1) (ownI_capLe hi2)).mono ?_
  rintro e w5 ⟨oa3, on3, oc3, rfl, ho3, hb5⟩
  rw [← HANS.out]
  rw [← HANS.out] at ho3
  have hB5 := hB4.trans (hb5.mono hB4.size)
  have hZ5 := hb5.size
  replace hx0 := hx0.below hb5 (Nat.le_refl _)
  replace hi1 := hi1.below hb5 (Nat.le_refl _)
  replace hi2 := hi2.below hb5 (Nat.le_refl _)
  have hrho3 := ho3.rowLt
  have hLho3 := ho3.le
  go_wp2_with fail
  refine (toLineS_any _ _ _ _ _ ((HL.out.below hB5 (Nat.le_refl _)).up hB5.size) HS.out hn20).mono ?_
  rintro e w6 ⟨rfl, hx4, hb6⟩
  have hB6 := hB5.trans (hb6.mono hB5.size)
  have hZ6 := hb6.size
  replace hx0 := hx0.below hb6 (Nat.le_refl _)
  replace ho3 := ho3.below hb6 (Nat.le_refl _)
  have hGhx4 := hx4.2.2.1
  obtain ⟨hs, hsl, hWL⟩ := hx4.wl (Nat.le_refl _)
  go_wp2_with fail
  refine (toIntS_any _ _ _ _ _ ((HI_s1.out.below hB6 (Nat.le_refl _)).up hB6.size)).mono ?_
  rintro e w7 ⟨ia5, in5, ic5, rfl, hi5, hb7⟩
  have hB7 := hB6.trans (hb7.mono hB6.size)
  have hZ7 := hb7.size
  replace hx0 := hx0.below hb7 (Nat.le_refl _)
  replace ho3 := ho3.below hb7 (Nat.le_refl _)
  replace hx4 := hx4.below hb7 (Nat.le_refl _)
  replace hWL := hWL.below hb7 hWL.size
  have hrhi5 := hi5.rowLt
  have hLhi5 := hi5.le
  go_wp2_with fail
  refine (toIntS_any _ _ _ _ _ ((HI_s2.out.below hB7 (Nat.le_refl _)).up hB7.size)).mono ?_
  rintro e w8 ⟨ia6, in6, ic6, rfl, hi6, hb8⟩
  have hB8 := hB7.trans (hb8.mono hB7.size)
  have hZ8 := hb8.size
  replace hx0 := hx0.below hb8 (Nat.le_refl _)
  replace ho3 := ho3.below hb8 (Nat.le_refl _)
  replace hx4 := hx4.below hb8 (Nat.le_refl _)
  replace hi5 := hi5.below hb8 (Nat.le_refl _)
  replace hWL := hWL.below hb8 hWL.size
  have hrhi6 := hi6.rowLt
  have hLhi6 := hi6.le
  go_wp2_with fail
  refine (impl_ValuesIn_any _ _ _ _ _ _ _ _ _ _ _ _ _ hx4.lns HS.out (Nat.le_refl _) hi5.ints hi6.ints).mono ?_
  rintro e w9 ⟨oa7, on7, oc7, rfl, ho7, hb9⟩
  rw [← HANS.out]
  rw [← HANS.out] at ho7
  have hB9 := hB8.trans (hb9.mono hB8.size)
  have hZ9 := hb9.size
  replace hx0 := hx0.below hb9 (Nat.le_refl _)
  replace ho3 := ho3.below hb9 (Nat.le_refl _)
  replace hx4 := hx4.below hb9 (Nat.le_refl _)
  replace hi5 := hi5.below hb9 (Nat.le_refl _)
  replace hi6 := hi6.below hb9 (Nat.le_refl _)
  replace hWL := hWL.below hb9 hWL.size
  have hrho7 := ho7.rowLt
  have hLho7 := ho7.le
  go_wp2_with fail
  refine (eqIntS_any _ _ _ _ _ _ _ _ _ _ _ ho7.ints ho3.ints (Nat.le_refl _) (Nat.le_refl _)).mono ?_
  rintro e w10 ⟨rfl, hb10⟩
  rw [eqB_self]
  have hB10 := hB9.trans (hb10.mono hB9.size)
  have hZ10 := hb10.size
  replace hx0 := hx0.below hb10 (Nat.le_refl _)
  replace ho3 := ho3.below hb10 (Nat.le_refl _)
  replace hx4 := hx4.below hb10 (Nat.le_refl _)
  replace hi5 := hi5.below hb10 (Nat.le_refl _)
  replace hi6 := hi6.below hb10 (Nat.le_refl _)
  replace ho7 := ho7.below hb10 (Nat.le_refl _)
  replace hWL := hWL.below hb10 hWL.size
  go_wp2_with fail
  refine (toLineS_any _ _ _ _ _ ((HL.out.below hB10 (Nat.le_refl _)).up hB10.size) HS.out hn20).mono ?_
  rintro e w11 ⟨rfl, hx8, hb11⟩
  have hB11 := hB10.trans (hb11.mono hB10.size)
  have hZ11 := hb11.size
  replace hx0 := hx0.below hb11 (Nat.le_refl _)
  replace ho3 := ho3.below hb11 (Nat.le_refl _)
  replace hx4 := hx4.below hb11 (Nat.le_refl _)
  replace hi5 := hi5.below hb11 (Nat.le_refl _)
  replace hi6 := hi6.below hb11 (Nat.le_refl _)
  replace ho7 := ho7.below hb11 (Nat.le_refl _)
  replace hWL := hWL.below hb11 hWL.size
  have hGhx8 := hx8.2.2.1
  go_wp2_with fail
  refine (eqLineS_same _ _ _ _ _ _ _ _ _ hx4.lns hx8.lns (Nat.le_refl _) (Nat.le_refl _)).mono ?_
  rintro e w12 ⟨rfl, hb12⟩
  have hB12 := hB11.trans (hb12.mono hB11.size)
  have hZ12 := hb12.size
  replace hx0 := hx0.below hb12 (Nat.le_refl _)
  replace ho3 := ho3.below hb12 (Nat.le_refl _)
  replace hx4 := hx4.below hb12 (Nat.le_refl _)
  replace hi5 := hi5.below hb12 (Nat.le_refl _)
  replace hi6 := hi6.below hb12 (Nat.le_refl _)
  replace ho7 := ho7.below hb12 (Nat.le_refl _)
  replace hx8 := hx8.below hb12 (Nat.le_refl _)
  replace hWL := hWL.below hb12 hWL.size
  go_wp2_with fail
  refine (toIntS_any _ _ _ _ _ ((HI_s1.out.below hB12 (Nat.le_refl _)).up hB12.size)).mono ?_
  rintro e w13 ⟨ia9, in9, ic9, rfl, hi9, hb13⟩
  have hB13 := hB12.trans (hb13.mono hB12.size)
  have hZ13 := hb13.size
  replace hx0 := hx0.below hb13 (Nat.le_refl _)
  replace ho3 := ho3.below hb13 (Nat.le_refl _)
  replace hx4 := hx4.below hb13 (Nat.le_refl _)
  replace hi5 := hi5.below hb13 (Nat.le_refl _)
  replace hi6 := hi6.below hb13 (Nat.le_refl _)
  replace ho7 := ho7.below hb13 (Nat.le_refl _)
  replace hx8 := hx8.below hb13 (Nat.le_refl _)
  replace hWL := hWL.below hb13 hWL.size
  have hrhi9 := hi9.rowLt
  have hLhi9 := hi9.le
  go_wp2_with fail
  refine (eqIntS_any _ _ _ _ _ _ _ _ _ _ _ hi5.ints hi9.ints (Nat.le_refl _) (Nat.le_refl _)).mono ?_
  rintro e w14 ⟨rfl, hb14⟩
  rw [eqB_self]
  have hB14 := hB13.trans (hb14.mono hB13.size)
  have hZ14 := hb14.size
  replace hx0 := hx0.below hb14 (Nat.le_refl _)
  replace ho3 := ho3.below hb14 (Nat.le_refl _)
  replace hx4 := hx4.below hb14 (Nat.le_refl _)
  replace hi5 := hi5.below hb14 (Nat.le_refl _)
  replace hi6 := hi6.below hb14 (Nat.le_refl _)
  replace ho7 := ho7.below hb14 (Nat.le_refl _)
  replace hx8 := hx8.below hb14 (Nat.le_refl _)
  replace hi9 := hi9.below hb14 (Nat.le_refl _)
  replace hWL := hWL.below hb14 hWL.size
  go_wp2_with fail
  refine (toIntS_any _ _ _ _ _ ((HI_s2.out.below hB14 (Nat.le_refl _)).up hB14.size)).mono ?_
  rintro e w15 ⟨ia10, in10, ic10, rfl, hi10, hb15⟩
  have hB15 := hB14.trans (hb15.mono hB14.size)
  have hZ15 := hb15.size
  replace hx0 := hx0.below hb15 (Nat.le_refl _)
  replace ho3 := ho3.below hb15 (Nat.le_refl _)
  replace hx4 := hx4.below hb15 (Nat.le_refl _)
  replace hi5 := hi5.below hb15 (Nat.le_refl _)
  replace hi6 := hi6.below hb15 (Nat.le_refl _)
  replace ho7 := ho7.below hb15 (Nat.le_refl _)
  replace hx8 := hx8.below hb15 (Nat.le_refl _)
  replace hWL := hWL.below hb15 hWL.size
  have hrhi10 := hi10.rowLt
  have hLhi10 := hi10.le
  go_wp2_with fail
  refine (eqIntS_any _ _ _ _ _ _ _ _ _ _ _ hi6.ints hi10.ints (Nat.le_refl _) (Nat.le_refl _)).mono ?_
  rintro e w16 ⟨rfl, hb16⟩
  rw [eqB_self]
  have hB16 := hB15.trans (hb16.mono hB15.size)
  have hZ16 := hb16.size
  replace hx0 := hx0.below hb16 (Nat.le_refl _)
  replace ho3 := ho3.below hb16 (Nat.le_refl _)
  replace hx4 := hx4.below hb16 (Nat.le_refl _)
  replace hi5 := hi5.below hb16 (Nat.le_refl _)
  replace hi6 := hi6.below hb16 (Nat.le_refl _)
  replace ho7 := ho7.below hb16 (Nat.le_refl _)
  replace hx8 := hx8.below hb16 (Nat.le_refl _)
  replace hi10 := hi10.below hb16 (Nat.le_refl _)
  replace hWL := hWL.below hb16 hWL.size
  go_wp2_with fail
  refine (markLineS_wl _ _ _ _ z0 hs hWL hsl _ HS.out HSUM.out).mono ?_
  rintro e w17 ⟨Q, rfl, hQ, hke⟩
  have hB17 := hB16.trans ((hke.below (by omega)).mono (by omega))
  have hZ17 := hke.size
  replace ho3 := hke.ownI ho3 (fun b hb => .inl (by have := hrho3 b hb; omega))
  replace ho7 := hke.ownI ho7 (fun b hb => .inr (by have := hrho7 b hb; omega))
  replace hi5 := hke.ownI hi5 (fun b hb => .inr (by have := hrhi5 b hb; omega))
  replace hi6 := hke.ownI hi6 (fun b hb => .inr (by have := hrhi6 b hb; omega))
  clear hWL hx4 hx8
  go_wp2_with fail
  refine (markIntS_any _ _ _ _ _ (Q : Int) _ hi5 (by omega) (by omega)).mono ?_
  rintro e w18 ⟨rfl, hm, hg⟩
  have hB18 := hB17.grown hg hB17.size (fun k hk => by have := hrhi5 k hk; omega)
  have hZ18 := hg.size
  replace ho3 := ho3.other hg (fun k l h1 h2 => by have := hrho3 k h1; have := hrhi5 l h2; omega)
  replace ho7 := ho7.other hg (fun k l h1 h2 => by have := hrho7 k h1; have := hrhi5 l h2; omega)
  replace hi6 := hi6.other hg (fun k l h1 h2 => by have := hrhi6 k h1; have := hrhi5 l h2; omega)
  replace hi5 := hm
  clear hm hg
  go_wp2_with fail
  refine (markIntS_any _ _ _ _ _ (Q + in5 : Int) _ hi6 (by omega) (by omega)).mono ?_
  rintro e w19 ⟨rfl, hm, hg⟩
  have hB19 := hB18.grown hg hB18.size (fun k hk => by have := hrhi6 k hk; omega)
  have hZ19 := hg.size
  replace ho3 := ho3.other hg (fun k l h1 h2 => by have := hrho3 k h1; have := hrhi6 l h2; omega)
  replace ho7 := ho7.other hg (fun k l h1 h2 => by have := hrho7 k h1; have := hrhi6 l h2; omega)
  replace hi5 := hi5.other hg (fun k l h1 h2 => by have := hrhi5 k h1; have := hrhi6 l h2; omega)
  replace hi6 := hm
  clear hm hg
  have hK0 : ¬ (Q + in5 + in6 : Int) < 0 := by omega
  go_wp2_with fail
  refine (eqIntS_any _ _ _ _ _ _ _ _ _ _ _ ho7.ints ho3.ints (Nat.le_refl _) (Nat.le_refl _)).mono ?_
  rintro e w20 ⟨rfl, hb20⟩
  rw [eqB_self]
  have hB20 := hB19.trans (hb20.mono hB19.size)
  have hZ20 := hb20.size
  replace ho3 := ho3.below hb20 (Nat.le_refl _)
  replace ho7 := ho7.below hb20 (Nat.le_refl _)
  go_wp2_with fail
  refine (markIntS_any _ _ _ _ _ 1 _ ho7 (by omega) (by omega)).mono ?_
  rintro e w21 ⟨rfl, hm, hg⟩
  have hB21 := hB20.grown hg hB20.size (fun k hk => by have := hrho7 k hk; omega)
  have hZ21 := hg.size
  replace ho3 := ho3.other hg (fun k l h1 h2 => by have := hrho3 k h1; have := hrho7 l h2; omega)
  replace ho7 := hm
  clear hm
  go_wp2_with fail
  refine (heldIntS_any _ _ _ _ _ _ _ ho7.ints (by omega) (by omega) (marks_held _ _)).mono ?_
  rintro e w' ⟨rfl, rfl⟩
  go_wp2_with fail
  refine (toLineS_any _ _ _ _ _ ((HL.out.below hB21 (Nat.le_refl _)).up hB21.size) HS.out hn20).mono ?_
  rintro e w22 ⟨rfl, hx11, hb22⟩
  have hB22 := hB21.trans (hb22.mono hB21.size)
  have hZ22 := hb22.size
  replace ho3 := ho3.below hb22 (Nat.le_refl _)
  replace ho7 := ho7.below hb22 (Nat.le_refl _)
  have hGhx11 := hx11.2.2.1
  go_wp2_with fail
  refine (toIntS_any _ _ _ _ _ ((HI_s1.out.below hB22 (Nat.le_refl _)).up hB22.size)).mono ?_
  rintro e w23 ⟨ia12, in12, ic12, rfl, hi12, hb23⟩
  have hB23 := hB22.trans (hb23.mono hB22.size)
  have hZ23 := hb23.size
  replace ho3 := ho3.below hb23 (Nat.le_refl _)
  replace ho7 := ho7.below hb23 (Nat.le_refl _)
  replace hx11 := hx11.below hb23 (Nat.le_refl _)
  have hrhi12 := hi12.rowLt
  have hLhi12 := hi12.le
  go_wp2_with fail
  refine (toIntS_any _ _ _ _ _ ((HI_s2.out.below hB23 (Nat.le_refl _)).up hB23.size)).mono ?_
  rintro e w24 ⟨ia13, in13, ic13, rfl, hi13, hb24⟩
  have hB24 := hB23.trans (hb24.mono hB23.size)
  have hZ24 := hb24.size
  replace ho3 := ho3.below hb24 (Nat.le_refl _)
  replace ho7 := ho7.below hb24 (Nat.le_refl _)
  replace hx11 := hx11.below hb24 (Nat.le_refl _)
  replace hi12 := hi12.below hb24 (Nat.le_refl _)
  have hrhi13 := hi13.rowLt
  have hLhi13 := hi13.le
  go_wp2_with fail
  refine (impl_ValuesIn_any _ _ _ _ _ _ _ _ _ _ _ _ _ hx11.lns HS.out (Nat.le_refl _) hi12.ints hi13.ints).mono ?_
  rintro e w25 ⟨oa14, on14, oc14, rfl, ho14, hb25⟩
  rw [← HANS.out]
  rw [← HANS.out] at ho14
  have hB25 := hB24.trans (hb25.mono hB24.size)
  have hZ25 := hb25.size
  replace ho3 := ho3.below hb25 (Nat.le_refl _)
  replace ho7 := ho7.below hb25 (Nat.le_refl _)
  replace hx11 := hx11.below hb25 (Nat.le_refl _)
  replace hi12 := hi12.below hb25 (Nat.le_refl _)
  replace hi13 := hi13.below hb25 (Nat.le_refl _)
  have hrho14 := ho14.rowLt
  have hLho14 := ho14.le
  go_wp2_with fail
  refine (eqIntS_any _ _ _ _ _ _ _ _ _ _ _ ho14.ints ho3.ints (Nat.le_refl _) (Nat.le_refl _)).mono ?_
  rintro e w26 ⟨rfl, hb26⟩
  rw [eqB_self]
  have hB26 := hB25.trans (hb26.mono hB25.size)
  have hZ26 := hb26.size
  replace ho3 := ho3.below hb26 (Nat.le_refl _)
  replace ho7 := ho7.below hb26 (Nat.le_refl _)
  replace hx11 := hx11.below hb26 (Nat.le_refl _)
  replace hi12 := hi12.below hb26 (Nat.le_refl _)
  replace hi13 := hi13.below hb26 (Nat.le_refl _)
  replace ho14 := ho14.below hb26 (Nat.le_refl _)
  go_wp2_with fail
  refine (heldIntS_any _ _ _ _ _ _ _ ho7.ints (by omega) (by omega) (marks_held _ _)).mono ?_
  rintro e w' ⟨rfl, rfl⟩
  go_wp2_with fail
  go_ret
  exact ⟨rfl, hB26⟩
set_option maxRecDepth 20000 in
set_option maxHeartbeats 4000000 in
theorem walk_FnExactRunProgram (a0 : Option Addr) (n0 c0 : Nat) (z0 : List Ln) (ps1 : Option Addr) (ms1 ds1 : Nat) (s1 : List Int) (ps2 : Option Addr) (ms2 ds2 : Nat) (s2 : List Int) (w0 : World) (hA : LnsArg w0 a0 n0 z0) (hI_s1 : IntsArg w0 ps1 ms1 s1) (hI_s2 : IntsArg w0 ps2 ms2 s2) : Calls Try.prog 5 #[.slice a0 n0 c0, .slice ps1 ms1 ds1, .slice ps2 ms2 ds2] w0 (RetB true w0) := by
  have hM_s1 := hI_s1.2.1
  unfold maxLen at hM_s1
  by_cases hg_s1 : ms1 ≤ 1048576
  rotate_left
  · have hg' : ¬ (ms1 : Int) ≤ 1048576 := by omega
    have hg2 : (1048576 : Int) < ms1 := by omega
    go_enter Try.func5, Try.ntmps5
    go_wp2_with fail
    go_ret
    exact ⟨rfl, Below.refl _ _⟩
  have hg'_s1 : (ms1 : Int) ≤ 1048576 := by omega
  have hg2_s1 : ¬ (1048576 : Int) < ms1 := by omega
  have hM_s2 := hI_s2.2.1
  unfold maxLen at hM_s2
  by_cases hg_s2 : ms2 ≤ 1048576
  rotate_left
  · have hg' : ¬ (ms2 : Int) ≤ 1048576 := by omega
    have hg2 : (1048576 : Int) < ms2 := by omega
    go_enter Try.func5, Try.ntmps5
    go_wp2_with fail
    go_ret
    exact ⟨rfl, Below.refl _ _⟩
  have hg'_s2 : (ms2 : Int) ≤ 1048576 := by omega
  have hg2_s2 : ¬ (1048576 : Int) < ms2 := by omega
  go_enter Try.func5, Try.ntmps5
  go_wp2_with fail
  refine (szLineS_any _ _ _ _ _ _ hA (by omega) (by omega)).mono ?_
  rintro e w1 ⟨r, rfl, hr1, hr2, hb1⟩
  by_cases hr : r < 0
  · go_wp2_with fail
    go_ret
    exact ⟨rfl, hb1⟩
  have hnr : ¬ r < 0 := hr
  obtain ⟨hS, hsum⟩ := hr2 (by omega)
  have HS := Lib.hid hS
  obtain rfl : z0.length = n0 := hA.1
  have hn20 : z0.length ≤ 1048576 := by omega
  have HSUM : Hid (z0.length + partsSum z0 ≤ 1048576) := by show _ ≤ _; omega
  have HL := Lib.hid (hA.lns hn20 hS)
  clear hS hr2 hA hsum
  have HI_s1 := Lib.hid (hI_s1.ints (by omega))
  have HI_s2 := Lib.hid (hI_s2.ints (by omega))
  have hB1 := hb1
  have hZ1 := hb1.size
  obtain ⟨ans, hans⟩ : ∃ r, r = runPF z0 s1 s2 := ⟨_, rfl⟩
  have HANS := Lib.hid hans
  clear hans
  go_wp2_with fail
  refine (toLineS_any _ _ _ _ _ ((HL.out.below hB1 (Nat.le_refl _)).up hB1.size) HS.out hn20).mono ?_
  rintro e w2 ⟨rfl, hx0, hb2⟩
  have hB2 := hB1.trans (hb2.mono hB1.size)
  have hZ2 := hb2.size
  have hGhx0 := hx0.2.2.1
  go_wp2_with fail
  refine (toIntS_any _ _ _ _ _ ((HI_s1.out.below hB2 (Nat.le_refl _)).up hB2.size)).mono ?_
  rintro e w3 ⟨ia1, in1, ic1, rfl, hi1, hb3⟩
  have hB3 := hB2.trans (hb3.mono hB2.size)
  have hZ3 := hb3.size
  replace hx0 := hx0.below hb3 (Nat.le_refl _)
  have hrhi1 := hi1.rowLt
  have hLhi1 := hi1.le
  go_wp2_with fail
  refine (toIntS_any _ _ _ _ _ ((HI_s2.out.below hB3 (Nat.le_refl _)).up hB3.size)).mono ?_
  rintro e w4 ⟨ia2, in2, ic2, rfl, hi2, hb4⟩
  have hB4 := hB3.trans (hb4.mono hB3.size)
  have hZ4 := hb4.size
  replace hx0 := hx0.below hb4 (Nat.le_refl _)
  replace hi1 := hi1.below hb4 (Nat.le_refl _)
  have hrhi2 := hi2.rowLt
  have hLhi2 := hi2.le
  go_wp2_with fail
  refine (spec_RunProgram_any _ _ _ _ _ _ _ _ _ _ _ _ _ hx0.lns HS.out hn20 (Nat.le_refl _) hi1.ints hi2.ints (ownI_capLe hi1) (ownI_capLe hi2)).mono ?_
  rintro e w5 ⟨oa3, on3, oc3, rfl, ho3, hb5⟩
  rw [← HANS.out]
  rw [← HANS.out] at ho3
  have hB5 := hB4.trans (hb5.mono hB4.size)
  have hZ5 := hb5.size
  replace hx0 := hx0.below hb5 (Nat.le_refl _)
  replace hi1 := hi1.below hb5 (Nat.le_refl _)
  replace hi2 := hi2.below hb5 (Nat.le_refl _)
  have hrho3 := ho3.rowLt
  have hLho3 := ho3.le
  go_wp2_with fail
  refine (toLineS_any _ _ _ _ _ ((HL.out.below hB5 (Nat.le_refl _)).up hB5.size) HS.out hn20).mono ?_
  rintro e w6 ⟨rfl, hx4, hb6⟩
  have hB6 := hB5.trans (hb6.mono hB5.size)
  have hZ6 := hb6.size
  replace hx0 := hx0.below hb6 (Nat.le_refl _)
  replace ho3 := ho3.below hb6 (Nat.le_refl _)
  have hGhx4 := hx4.2.2.1
  obtain ⟨hs, hsl, hWL⟩ := hx4.wl (Nat.le_refl _)
  go_wp2_with fail
  refine (toIntS_any _ _ _ _ _ ((HI_s1.out.below hB6 (Nat.le_refl _)).up hB6.size)).mono ?_
  rintro e w7 ⟨ia5, in5, ic5, rfl, hi5, hb7⟩
  have hB7 := hB6.trans (hb7.mono hB6.size)
  have hZ7 := hb7.size
  replace hx0 := hx0.below hb7 (Nat.le_refl _)
  replace ho3 := ho3.below hb7 (Nat.le_refl _)
  replace hx4 := hx4.below hb7 (Nat.le_refl _)
  replace hWL := hWL.below hb7 hWL.size
  have hrhi5 := hi5.rowLt
  have hLhi5 := hi5.le
  go_wp2_with fail
  refine (toIntS_any _ _ _ _ _ ((HI_s2.out.below hB7 (Nat.le_refl _)).up hB7.size)).mono ?_
  rintro e w8 ⟨ia6, in6, ic6, rfl, hi6, hb8⟩
  have hB8 := hB7.trans (hb8.mono hB7.size)
  have hZ8 := hb8.size
  replace hx0 := hx0.below hb8 (Nat.le_refl _)
  replace ho3 := ho3.below hb8 (Nat.le_refl _)
  replace hx4 := hx4.below hb8 (Nat.le_refl _)
  replace hi5 := hi5.below hb8 (Nat.le_refl _)
  replace hWL := hWL.below hb8 hWL.size
  have hrhi6 := hi6.rowLt
  have hLhi6 := hi6.le
  go_wp2_with fail
  refine (impl_RunProgram_any _ _ _ _ _ _ _ _ _ _ _ _ _ hx4.lns HS.out (Nat.le_refl _) hi5.ints hi6.ints).mono ?_
  rintro e w9 ⟨oa7, on7, oc7, rfl, ho7, hb9⟩
  rw [← HANS.out]
  rw [← HANS.out] at ho7
  have hB9 := hB8.trans (hb9.mono hB8.size)
  have hZ9 := hb9.size
  replace hx0 := hx0.below hb9 (Nat.le_refl _)
  replace ho3 := ho3.below hb9 (Nat.le_refl _)
  replace hx4 := hx4.below hb9 (Nat.le_refl _)
  replace hi5 := hi5.below hb9 (Nat.le_refl _)
  replace hi6 := hi6.below hb9 (Nat.le_refl _)
  replace hWL := hWL.below hb9 hWL.size
  have hrho7 := ho7.rowLt
  have hLho7 := ho7.le
  go_wp2_with fail
  refine (eqIntS_any _ _ _ _ _ _ _ _ _ _ _ ho7.ints ho3.ints (Nat.le_refl _) (Nat.le_refl _)).mono ?_
  rintro e w10 ⟨rfl, hb10⟩
  rw [eqB_self]
  have hB10 := hB9.trans (hb10.mono hB9.size)
  have hZ10 := hb10.size
  replace hx0 := hx0.below hb10 (Nat.le_refl _)
  replace ho3 := ho3.below hb10 (Nat.le_refl _)
  replace hx4 := hx4.below hb10 (Nat.le_refl _)
  replace hi5 := hi5.below hb10 (Nat.le_refl _)
  replace hi6 := hi6.below hb10 (Nat.le_refl _)
  replace ho7 := ho7.below hb10 (Nat.le_refl _)
  replace hWL := hWL.below hb10 hWL.size
  go_wp2_with fail
  refine (toLineS_any _ _ _ _ _ ((HL.out.below hB10 (Nat.le_refl _)).up hB10.size) HS.out hn20).mono ?_
  rintro e w11 ⟨rfl, hx8, hb11⟩
  have hB11 := hB10.trans (hb11.mono hB10.size)
  have hZ11 := hb11.size
  replace hx0 := hx0.below hb11 (Nat.le_refl _)
  replace ho3 := ho3.below hb11 (Nat.le_refl _)
  replace hx4 := hx4.below hb11 (Nat.le_refl _)
  replace hi5 := hi5.below hb11 (Nat.le_refl _)
  replace hi6 := hi6.below hb11 (Nat.le_refl _)
  replace ho7 := ho7.below hb11 (Nat.le_refl _)
  replace hWL := hWL.below hb11 hWL.size
  have hGhx8 := hx8.2.2.1
  go_wp2_with fail
  refine (eqLineS_same _ _ _ _ _ _ _ _ _ hx4.lns hx8.lns (Nat.le_refl _) (Nat.le_refl _)).mono ?_
  rintro e w12 ⟨rfl, hb12⟩
  have hB12 := hB11.trans (hb12.mono hB11.size)
  have hZ12 := hb12.size
  replace hx0 := hx0.below hb12 (Nat.le_refl _)
  replace ho3 := ho3.below hb12 (Nat.le_refl _)
  replace hx4 := hx4.below hb12 (Nat.le_refl _)
  replace hi5 := hi5.below hb12 (Nat.le_refl _)
  replace hi6 := hi6.below hb12 (Nat.le_refl _)
  replace ho7 := ho7.below hb12 (Nat.le_refl _)
  replace hx8 := hx8.below hb12 (Nat.le_refl _)
  replace hWL := hWL.below hb12 hWL.size
  go_wp2_with fail
  refine (toIntS_any _ _ _ _ _ ((HI_s1.out.below hB12 (Nat.le_refl _)).up hB12.size)).mono ?_
  rintro e w13 ⟨ia9, in9, ic9, rfl, hi9, hb13⟩
  have hB13 := hB12.trans (hb13.mono hB12.size)
  have hZ13 := hb13.size
  replace hx0 := hx0.below hb13 (Nat.le_refl _)
  replace ho3 := ho3.below hb13 (Nat.le_refl _)
  replace hx4 := hx4.below hb13 (Nat.le_refl _)
  replace hi5 := hi5.below hb13 (Nat.le_refl _)
  replace hi6 := hi6.below hb13 (Nat.le_refl _)
  replace ho7 := ho7.below hb13 (Nat.le_refl _)
  replace hx8 := hx8.below hb13 (Nat.le_refl _)
  replace hWL := hWL.below hb13 hWL.size
  have hrhi9 := hi9.rowLt
  have hLhi9 := hi9.le
  go_wp2_with fail
  refine (eqIntS_any _ _ _ _ _ _ _ _ _ _ _ hi5.ints hi9.ints (Nat.le_refl _) (Nat.le_refl _)).mono ?_
  rintro e w14 ⟨rfl, hb14⟩
  rw [eqB_self]
  have hB14 := hB13.trans (hb14.mono hB13.size)
  have hZ14 := hb14.size
  replace hx0 := hx0.below hb14 (Nat.le_refl _)
  replace ho3 := ho3.below hb14 (Nat.le_refl _)
  replace hx4 := hx4.below hb14 (Nat.le_refl _)
  replace hi5 := hi5.below hb14 (Nat.le_refl _)
  replace hi6 := hi6.below hb14 (Nat.le_refl _)
  replace ho7 := ho7.below hb14 (Nat.le_refl _)
  replace hx8 := hx8.below hb14 (Nat.le_refl _)
  replace hi9 := hi9.below hb14 (Nat.le_refl _)
  replace hWL := hWL.below hb14 hWL.size
  go_wp2_with fail
  refine (toIntS_any _ _ _ _ _ ((HI_s2.out.below hB14 (Nat.le_refl _)).up hB14.size)).mono ?_
  rintro e w15 ⟨ia10, in10, ic10, rfl, hi10, hb15⟩
  have hB15 := hB14.trans (hb15.mono hB14.size)
  have hZ15 := hb15.size
  replace hx0 := hx0.below hb15 (Nat.le_refl _)
  replace ho3 := ho3.below hb15 (Nat.le_refl _)
  replace hx4 := hx4.below hb15 (Nat.le_refl _)
  replace hi5 := hi5.below hb15 (Nat.le_refl _)
  replace hi6 := hi6.below hb15 (Nat.le_refl _)
  replace ho7 := ho7.below hb15 (Nat.le_refl _)
  replace hx8 := hx8.below hb15 (Nat.le_refl _)
  replace hWL := hWL.below hb15 hWL.size
  have hrhi10 := hi10.rowLt
  have hLhi10 := hi10.le
  go_wp2_with fail
  refine (eqIntS_any _ _ _ _ _ _ _ _ _ _ _ hi6.ints hi10.ints (Nat.le_refl _) (Nat.le_refl _)).mono ?_
  rintro e w16 ⟨rfl, hb16⟩
  rw [eqB_self]
  have hB16 := hB15.trans (hb16.mono hB15.size)
  have hZ16 := hb16.size
  replace hx0 := hx0.below hb16 (Nat.le_refl _)
  replace ho3 := ho3.below hb16 (Nat.le_refl _)
  replace hx4 := hx4.below hb16 (Nat.le_refl _)
  replace hi5 := hi5.below hb16 (Nat.le_refl _)
  replace hi6 := hi6.below hb16 (Nat.le_refl _)
  replace ho7 := ho7.below hb16 (Nat.le_refl _)
  replace hx8 := hx8.below hb16 (Nat.le_refl _)
  replace hi10 := hi10.below hb16 (Nat.le_refl _)
  replace hWL := hWL.below hb16 hWL.size
  go_wp2_with fail
  refine (markLineS_wl _ _ _ _ z0 hs hWL hsl _ HS.out HSUM.out).mono ?_
  rintro e w17 ⟨Q, rfl, hQ, hke⟩
  have hB17 := hB16.trans ((hke.below (by omega)).mono (by omega))
  have hZ17 := hke.size
  replace ho3 := hke.ownI ho3 (fun b hb => .inl (by have := hrho3 b hb; omega))
  replace ho7 := hke.ownI ho7 (fun b hb => .inr (by have := hrho7 b hb; omega))
  replace hi5 := hke.ownI hi5 (fun b hb => .inr (by have := hrhi5 b hb; omega))
  replace hi6 := hke.ownI hi6 (fun b hb => .inr (by have := hrhi6 b hb; omega))
  clear hWL hx4 hx8
  go_wp2_with fail
  refine (markIntS_any _ _ _ _ _ (Q : Int) _ hi5 (by omega) (by omega)).mono ?_
  rintro e w18 ⟨rfl, hm, hg⟩
  have hB18 := hB17.grown hg hB17.size (fun k hk => by have := hrhi5 k hk; omega)
  have hZ18 := hg.size
  replace ho3 := ho3.other hg (fun k l h1 h2 => by have := hrho3 k h1; have := hrhi5 l h2; omega)
  replace ho7 := ho7.other hg (fun k l h1 h2 => by have := hrho7 k h1; have := hrhi5 l h2; omega)
  replace hi6 := hi6.other hg (fun k l h1 h2 => by have := hrhi6 k h1; have := hrhi5 l h2; omega)
  replace hi5 := hm
  clear hm hg
  go_wp2_with fail
  refine (markIntS_any _ _ _ _ _ (Q + in5 : Int) _ hi6 (by omega) (by omega)).mono ?_
  rintro e w19 ⟨rfl, hm, hg⟩
  have hB19 := hB18.grown hg hB18.size (fun k hk => by have := hrhi6 k hk; omega)
  have hZ19 := hg.size
  replace ho3 := ho3.other hg (fun k l h1 h2 => by have := hrho3 k h1; have := hrhi6 l h2; omega)
  replace ho7 := ho7.other hg (fun k l h1 h2 => by have := hrho7 k h1; have := hrhi6 l h2; omega)
  replace hi5 := hi5.other hg (fun k l h1 h2 => by have := hrhi5 k h1; have := hrhi6 l h2; omega)
  replace hi6 := hm
  clear hm hg
  have hK0 : ¬ (Q + in5 + in6 : Int) < 0 := by omega
  go_wp2_with fail
  refine (eqIntS_any _ _ _ _ _ _ _ _ _ _ _ ho7.ints ho3.ints (Nat.le_refl _) (Nat.le_refl _)).mono ?_
  rintro e w20 ⟨rfl, hb20⟩
  rw [eqB_self]
  have hB20 := hB19.trans (hb20.mono hB19.size)
  have hZ20 := hb20.size
  replace ho3 := ho3.below hb20 (Nat.le_refl _)
  replace ho7 := ho7.below hb20 (Nat.le_refl _)
  go_wp2_with fail
  refine (markIntS_any _ _ _ _ _ 1 _ ho7 (by omega) (by omega)).mono ?_
  rintro e w21 ⟨rfl, hm, hg⟩
  have hB21 := hB20.grown hg hB20.size (fun k hk => by have := hrho7 k hk; omega)
  have hZ21 := hg.size
  replace ho3 := ho3.other hg (fun k l h1 h2 => by have := hrho3 k h1; have := hrho7 l h2; omega)
  replace ho7 := hm
  clear hm
  go_wp2_with fail
  refine (heldIntS_any _ _ _ _ _ _ _ ho7.ints (by omega) (by omega) (marks_held _ _)).mono ?_
  rintro e w' ⟨rfl, rfl⟩
  go_wp2_with fail
  refine (toLineS_any _ _ _ _ _ ((HL.out.below hB21 (Nat.le_refl _)).up hB21.size) HS.out hn20).mono ?_
  rintro e w22 ⟨rfl, hx11, hb22⟩
  have hB22 := hB21.trans (hb22.mono hB21.size)
  have hZ22 := hb22.size
  replace ho3 := ho3.below hb22 (Nat.le_refl _)
  replace ho7 := ho7.below hb22 (Nat.le_refl _)
  have hGhx11 := hx11.2.2.1
  go_wp2_with fail
  refine (toIntS_any _ _ _ _ _ ((HI_s1.out.below hB22 (Nat.le_refl _)).up hB22.size)).mono ?_
  rintro e w23 ⟨ia12, in12, ic12, rfl, hi12, hb23⟩
  have hB23 := hB22.trans (hb23.mono hB22.size)
  have hZ23 := hb23.size
  replace ho3 := ho3.below hb23 (Nat.le_refl _)
  replace ho7 := ho7.below hb23 (Nat.le_refl _)
  replace hx11 := hx11.below hb23 (Nat.le_refl _)
  have hrhi12 := hi12.rowLt
  have hLhi12 := hi12.le
  go_wp2_with fail
  refine (toIntS_any _ _ _ _ _ ((HI_s2.out.below hB23 (Nat.le_refl _)).up hB23.size)).mono ?_
  rintro e w24 ⟨ia13, in13, ic13, rfl, hi13, hb24⟩
  have hB24 := hB23.trans (hb24.mono hB23.size)
  have hZ24 := hb24.size
  replace ho3 := ho3.below hb24 (Nat.le_refl _)
  replace ho7 := ho7.below hb24 (Nat.le_refl _)
  replace hx11 := hx11.below hb24 (Nat.le_refl _)
  replace hi12 := hi12.below hb24 (Nat.le_refl _)
  have hrhi13 := hi13.rowLt
  have hLhi13 := hi13.le
  go_wp2_with fail
  refine (impl_RunProgram_any _ _ _ _ _ _ _ _ _ _ _ _ _ hx11.lns HS.out (Nat.le_refl _) hi12.ints hi13.ints).mono ?_
  rintro e w25 ⟨oa14, on14, oc14, rfl, ho14, hb25⟩
  rw [← HANS.out]
  rw [← HANS.out] at ho14
  have hB25 := hB24.trans (hb25.mono hB24.size)
  have hZ25 := hb25.size
  replace ho3 := ho3.below hb25 (Nat.le_refl _)
  replace ho7 := ho7.below hb25 (Nat.le_refl _)
  replace hx11 := hx11.below hb25 (Nat.le_refl _)
  replace hi12 := hi12.below hb25 (Nat.le_refl _)
  replace hi13 := hi13.below hb25 (Nat.le_refl _)
  have hrho14 := ho14.rowLt
  have hLho14 := ho14.le
  go_wp2_with fail
  refine (eqIntS_any _ _ _ _ _ _ _ _ _ _ _ ho14.ints ho3.ints (Nat.le_refl _) (Nat.le_refl _)).mono ?_
  rintro e w26 ⟨rfl, hb26⟩
  rw [eqB_self]
  have hB26 := hB25.trans (hb26.mono hB25.size)
  have hZ26 := hb26.size
  replace ho3 := ho3.below hb26 (Nat.le_refl _)
  replace ho7 := ho7.below hb26 (Nat.le_refl _)
  replace hx11 := hx11.below hb26 (Nat.le_refl _)
  replace hi12 := hi12.below hb26 (Nat.le_refl _)
  replace hi13 := hi13.below hb26 (Nat.le_refl _)
  replace ho14 := ho14.below hb26 (Nat.le_refl _)
  go_wp2_with fail
  refine (heldIntS_any _ _ _ _ _ _ _ ho7.ints (by omega) (by omega) (marks_held _ _)).mono ?_
  rintro e w' ⟨rfl, rfl⟩
  go_wp2_with fail
  go_ret
  exact ⟨rfl, hB26⟩
end Go.Proofs.Ytglehpmaniabbaa
