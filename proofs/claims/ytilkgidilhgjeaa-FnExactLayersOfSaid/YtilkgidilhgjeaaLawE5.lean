/-
  The law on LayersOf: its walk (printed by XLawE5.py).
-/
import Derived.Test.YtilkgidilhgjeaaLy2
namespace Go.Proofs.Ytilkgidilhgjeaa
open Go.RowKit
set_option linter.unusedVariables false
set_option linter.unusedSimpArgs false

theorem RR.farO {B n cap : Nat} {w w' : World} {ao : Option Addr} {hs : List (Option Addr × Nat)} {rows : List (List Int)} {row : Option Nat} (h : RR B w ao n cap hs rows) (hg : w.grownBy w' row) (hB : ∀ g, row = some g → g < B) : RR B w' ao n cap hs rows :=
  ⟨h.len, h.le, h.hlen, h.row.kept hg (fun q e hc he => by
    have h1 := hB q he
    have := h.row.rowLt q (by subst e; simp [rowOf, hc])
    omega), fun k l x a b => (h.parts k l x a b).other hg (fun p q hp hq => by have := hB q hq; have := ((h.parts k l x a b).rowLt p hp).1; omega), h.apart⟩
theorem layersF_tot {n : Int} {xs : List Int} {len : Nat} (hl : xs.length = len * 2) : tot (layersF n xs).1 ≤ 60 := by
  unfold layersF
  split
  · rename_i h
    obtain ⟨f1, f2, f3, f4⟩ := isNet_facts hl h
    obtain ⟨m, rfl⟩ := Int.eq_ofNat_of_zero_le (show 0 ≤ n by omega)
    have := (layTo_inv (n := m) f4 (steps xs).length (Nat.le_refl _)).sum
    have h2 := steps_length len xs hl
    show tot (layTo (steps xs) m (steps xs).length).1 ≤ 60
    omega
  · simp [tot]
set_option maxHeartbeats 4000000 in
theorem walk_FnExactLayersOf (x0 : Int) (a1 : Option Addr) (n1 c1 : Nat) (z1 : List Int) (w0 : World) (hA1 : FlatArg 2 w0 a1 n1 z1) : Calls Try.prog 3 #[.int .i64 x0, .slice a1 n1 c1] w0 (RetB true w0) := by
  have hs1 := hA1.2.1
  unfold maxLen at hs1
  by_cases hg1 : n1 ≤ 1048576
  rotate_left
  · go_enter Try.func3, Try.ntmps3
    go_wp2_with fail
    refine (szStepS_any _ _ _ _ _ (by omega) (by omega) hA1.2.1).mono ?_
    rintro e w' ⟨rfl, rfl⟩
    rw [show szF 1048576 n1 = -1 from by rw [szF, if_pos (by omega)]]
    go_wp2_with fail
    go_ret
    exact ⟨rfl, Below.refl _ _⟩
  have hI1 := hA1.flat hg1
  have hB0 : Below w0.heap.size w0 w0 := Below.refl _ _
  have htot : tot (layersF x0 z1).1 ≤ 60 := layersF_tot hA1.1
  obtain ⟨ans, hans⟩ : ∃ r, r = layersF x0 z1 := ⟨_, rfl⟩
  rw [← hans] at htot
  have HANS := Lib.hid hans
  clear hans
  go_enter Try.func3, Try.ntmps3
  go_wp2_with fail
  refine (szStepS_any _ _ _ _ _ (by omega) (by omega) hA1.2.1).mono ?_
  rintro e w' ⟨rfl, rfl⟩
  rw [show szF 1048576 n1 = 1048576 - n1 from by rw [szF, if_neg (by omega)]]
  go_wp2_with fail
  refine (toStepS_any _ _ _ _ _ ((hI1.below hB0 (Nat.le_refl _)).up hB0.size)).mono ?_
  rintro e w1 ⟨bo0, no0, co0, rfl, ho0, hb1⟩
  have hB1 := hB0.trans (hb1.mono hB0.size)
  have hZ1 := hb1.size
  have hro0 := ho0.rowLt
  have hLo0 := ho0.le
  go_wp2_with fail
  refine (spec_LayersOf_any _ _ _ _ _ _ ho0.flat).mono ?_
  rintro e w2 ⟨bo1, no1, co1, hs1, rfl, hr1, hb2⟩
  rw [← HANS.out]
  rw [← HANS.out] at hr1
  have hB2 := hB1.trans (hb2.mono hB1.size)
  have hZ2 := hb2.size
  replace ho0 := ho0.below hb2 (Nat.le_refl _)
  have hr1 := hr1.rowsR
  go_wp2_with fail
  refine (toStepS_any _ _ _ _ _ ((hI1.below hB2 (Nat.le_refl _)).up hB2.size)).mono ?_
  rintro e w3 ⟨bo2, no2, co2, rfl, ho2, hb3⟩
  have hB3 := hB2.trans (hb3.mono hB2.size)
  have hZ3 := hb3.size
  replace hr1 := hr1.below hb3 (by omega)
  replace ho0 := ho0.below hb3 (Nat.le_refl _)
  have hro2 := ho2.rowLt
  have hLo2 := ho2.le
  go_wp2_with fail
  refine (impl_LayersOf_any _ _ _ _ _ _ ho2.flat).mono ?_
  rintro e w4 ⟨bo3, no3, co3, hs3, rfl, hr3, hb4⟩
  rw [← HANS.out]
  rw [← HANS.out] at hr3
  have hB4 := hB3.trans (hb4.mono hB3.size)
  have hZ4 := hb4.size
  replace hr1 := hr1.below hb4 (by omega)
  replace ho0 := ho0.below hb4 (Nat.le_refl _)
  replace ho2 := ho2.below hb4 (Nat.le_refl _)
  have hl3 : no3 = no1 := hr3.len.symm.trans hr1.1
  subst hl3
  go_wp2_with fail
  refine (eqIntSS_same _ _ _ _ _ _ _ _ _ hr3.rowsR hr1).mono ?_
  rintro e w5 ⟨rfl, hq5⟩
  have hb5 := hq5.below w4.heap.size
  clear hq5
  have hB5 := hB4.trans (hb5.mono hB4.size)
  have hZ5 := hb5.size
  replace hr1 := hr1.below hb5 (by omega)
  replace ho0 := ho0.below hb5 (Nat.le_refl _)
  replace ho2 := ho2.below hb5 (Nat.le_refl _)
  replace hr3 := hr3.below hb5 (Nat.le_refl _)
  go_wp2_with fail
  refine (toStepS_any _ _ _ _ _ ((hI1.below hB5 (Nat.le_refl _)).up hB5.size)).mono ?_
  rintro e w6 ⟨bo4, no4, co4, rfl, ho4, hb6⟩
  have hB6 := hB5.trans (hb6.mono hB5.size)
  have hZ6 := hb6.size
  replace hr1 := hr1.below hb6 (by omega)
  replace ho0 := ho0.below hb6 (Nat.le_refl _)
  replace ho2 := ho2.below hb6 (Nat.le_refl _)
  replace hr3 := hr3.below hb6 (Nat.le_refl _)
  have hro4 := ho4.rowLt
  have hLo4 := ho4.le
  go_wp2_with fail
  refine (eqStepS_any _ _ _ _ _ _ _ _ _ _ _ ho2.flat ho4.flat (Nat.le_refl _) (Nat.le_refl _)).mono ?_
  rintro e w7 ⟨rfl, hb7⟩
  rw [eqB_self]
  have hB7 := hB6.trans (hb7.mono hB6.size)
  have hZ7 := hb7.size
  replace hr1 := hr1.below hb7 (by omega)
  replace ho0 := ho0.below hb7 (Nat.le_refl _)
  replace ho2 := ho2.below hb7 (Nat.le_refl _)
  replace hr3 := hr3.below hb7 (Nat.le_refl _)
  replace ho4 := ho4.below hb7 (Nat.le_refl _)
  go_wp2_with fail
  refine (markStepS_any _ _ _ _ _ _ _ ho2 (by omega) (by omega)).mono ?_
  rintro e w8 ⟨rfl, hm, hg⟩
  have hB8 : Below w0.heap.size w0 w8 := hB7.grown hg hB7.size (fun k hk => by have := hro2 k hk; omega)
  have hZ8 := hg.size
  replace hr1 := hr1.below ((Below.refl w2.heap.size w7).grown hg (by omega) (fun k hk => by have := hro2 k hk; omega)) (Nat.le_refl _)
  replace hr3 := hr3.farO hg (fun k hk => (hro2 k hk).2)
  clear hm hg ho0 ho2 ho4 hro0 hro2 hro4 hLo0 hLo2 hLo4
  go_wp2_with fail
  refine (eqIntSS_same _ _ _ _ _ _ _ _ _ hr3.rowsR hr1).mono ?_
  rintro e w9 ⟨rfl, hq9⟩
  have hb9 := hq9.below w8.heap.size
  clear hq9
  have hB9 := hB8.trans (hb9.mono hB8.size)
  have hZ9 := hb9.size
  replace hr1 := hr1.below hb9 (by omega)
  replace hr3 := hr3.below hb9 (Nat.le_refl _)
  go_wp2_with fail
  refine (markIntSS_any _ _ _ _ _ _ _ 1 hr3 (by omega) (by omega) (by omega) (by omega)).mono ?_
  rintro e w10 ⟨rfl, hm, hg⟩
  have hB10 := hB9.trans (hg.mono (show w0.heap.size ≤ w3.heap.size by omega))
  have hZ10 := hg.size
  replace hr1 := hr1.below hg (by omega)
  replace hr3 := hm.rowsR
  clear hm hg
  have hr4 := hr3
  clear hr3
  go_wp2_with fail
  refine (heldIntSS_any _ _ _ _ _ _ _ hr4 (by omega) (by omega) (by omega)).mono ?_
  rintro e w' ⟨rfl, rfl⟩
  go_wp2_with fail
  refine (toStepS_any _ _ _ _ _ ((hI1.below hB10 (Nat.le_refl _)).up hB10.size)).mono ?_
  rintro e w11 ⟨bo5, no5, co5, rfl, ho5, hb11⟩
  have hB11 := hB10.trans (hb11.mono hB10.size)
  have hZ11 := hb11.size
  replace hr1 := hr1.below hb11 (by omega)
  replace hr4 := hr4.below hb11 (by omega)
  have hro5 := ho5.rowLt
  have hLo5 := ho5.le
  go_wp2_with fail
  refine (impl_LayersOf_any _ _ _ _ _ _ ho5.flat).mono ?_
  rintro e w12 ⟨bo6, no6, co6, hs6, rfl, hr6, hb12⟩
  rw [← HANS.out]
  rw [← HANS.out] at hr6
  have hB12 := hB11.trans (hb12.mono hB11.size)
  have hZ12 := hb12.size
  replace hr1 := hr1.below hb12 (by omega)
  replace hr4 := hr4.below hb12 (by omega)
  replace ho5 := ho5.below hb12 (Nat.le_refl _)
  have hl6 : no6 = no3 := hr6.len.symm.trans hr1.1
  subst hl6
  have hr6 := hr6.rowsR
  go_wp2_with fail
  refine (eqIntSS_same _ _ _ _ _ _ _ _ _ hr6 hr1).mono ?_
  rintro e w13 ⟨rfl, hq13⟩
  have hb13 := hq13.below w12.heap.size
  clear hq13
  have hB13 := hB12.trans (hb13.mono hB12.size)
  have hZ13 := hb13.size
  replace hr1 := hr1.below hb13 (by omega)
  replace hr4 := hr4.below hb13 (by omega)
  replace ho5 := ho5.below hb13 (Nat.le_refl _)
  go_wp2_with fail
  refine (heldIntSS_any _ _ _ _ _ _ _ hr4 (by omega) (by omega) (by omega)).mono ?_
  rintro e w' ⟨rfl, rfl⟩
  go_wp2_with fail
  go_ret
  exact ⟨rfl, hB13⟩
end Go.Proofs.Ytilkgidilhgjeaa
