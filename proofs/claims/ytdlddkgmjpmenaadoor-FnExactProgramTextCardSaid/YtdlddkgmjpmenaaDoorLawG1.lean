/-
  The walk of FnExactProgramText.
-/
import Derived.Test.YtdlddkgmjpmenaaDoorPt5
import Derived.Test.YtdlddkgmjpmenaaDoorLs5
namespace Go.Proofs.YtdlddkgmjpmenaaDoor
open Go.RowKit
set_option linter.unusedVariables false
set_option linter.unusedSimpArgs false

set_option maxRecDepth 20000 in
set_option maxHeartbeats 4000000 in
theorem walk_FnExactProgramText (a0 : Option Addr) (n0 c0 : Nat) (z0 : List Ln) (w0 : World) (hA : LnsArg w0 a0 n0 z0) (htab : TabB w0) : Calls Tryd.prog 3 #[.slice a0 n0 c0] w0 (RetB true w0) := by
  have HTAB := Lib.hid htab
  clear htab
  go_enter Tryd.func3, Tryd.ntmps3
  go_wp2_with fail
  refine (szLineS_any _ _ _ _ _ _ hA (by omega) (by omega)).mono ?_
  rintro e w1 ⟨r, rfl, hr1, hr2, hb1⟩
  by_cases hr : r < 0
  · go_wp2_with fail
    go_ret
    exact ⟨rfl, hb1⟩
  have hnr : ¬ r < 0 := hr
  obtain ⟨hS, hsum⟩ := hr2 (by omega)
  have HS := Lib.hid hS
  obtain rfl : z0.length = n0 := hA.1
  have hn20 : z0.length ≤ 1048576 := by omega
  have HL := Lib.hid (hA.lns hn20 hS)
  clear hS hr2 hA hsum
  have hB1 := hb1
  have hZ1 := hb1.size
  obtain ⟨ts, tb, hans⟩ : ∃ s b, textF z0 = (s, b) := ⟨_, _, rfl⟩
  have HANS := Lib.hid hans
  clear hans
  go_wp2_with fail
  refine (toLineS_any _ _ _ _ _ ((HL.out.below hB1 (Nat.le_refl _)).up hB1.size) HS.out hn20).mono ?_
  rintro e w2 ⟨rfl, hx0, hb2⟩
  have hB2 := hB1.trans (hb2.mono hB1.size)
  have hZ2 := hb2.size
  have hGhx0 := hx0.2.2.1
  go_wp2_with fail
  refine (spec_ProgramText_any _ _ _ _ _ hx0.lns HS.out (Nat.le_refl _)).mono ?_
  rw [HANS.out]
  rintro e w3 ⟨rfl, hb3⟩
  have hB3 := hB2.trans (hb3.mono hB2.size)
  have hZ3 := hb3.size
  replace hx0 := hx0.below hb3 (Nat.le_refl _)
  go_wp2_with fail
  refine (toLineS_any _ _ _ _ _ ((HL.out.below hB3 (Nat.le_refl _)).up hB3.size) HS.out hn20).mono ?_
  rintro e w4 ⟨rfl, hx1, hb4⟩
  have hB4 := hB3.trans (hb4.mono hB3.size)
  have hZ4 := hb4.size
  replace hx0 := hx0.below hb4 (Nat.le_refl _)
  have hGhx1 := hx1.2.2.1
  go_wp2_with fail
  refine (impl_ProgramText_any _ _ _ _ _ hx1.lns HS.out (Nat.le_refl _) (tabB_on HTAB.out hB4)).mono ?_
  rw [HANS.out]
  rintro e w5 ⟨rfl, hb5⟩
  have hB5 := hB4.trans (hb5.mono hB4.size)
  have hZ5 := hb5.size
  replace hx0 := hx0.below hb5 (Nat.le_refl _)
  replace hx1 := hx1.below hb5 (Nat.le_refl _)
  go_wp2_with fail
  refine (toLineS_any _ _ _ _ _ ((HL.out.below hB5 (Nat.le_refl _)).up hB5.size) HS.out hn20).mono ?_
  rintro e w6 ⟨rfl, hx2, hb6⟩
  have hB6 := hB5.trans (hb6.mono hB5.size)
  have hZ6 := hb6.size
  replace hx0 := hx0.below hb6 (Nat.le_refl _)
  replace hx1 := hx1.below hb6 (Nat.le_refl _)
  have hGhx2 := hx2.2.2.1
  go_wp2_with fail
  refine (eqLineS_same _ _ _ _ _ _ _ _ _ hx1.lns hx2.lns (Nat.le_refl _) (Nat.le_refl _)).mono ?_
  rintro e w7 ⟨rfl, hb7⟩
  have hB7 := hB6.trans (hb7.mono hB6.size)
  go_wp2_with fail
  go_ret
  exact ⟨rfl, hB7⟩
end Go.Proofs.YtdlddkgmjpmenaaDoor
