/-
  The language: whether numbers are a program's inputs, both ways.
-/
import Derived.Test.YtglehpmaniabbaaVa3
namespace Go.Proofs.Ytglehpmaniabbaa
open Go.RowKit
set_option linter.unusedVariables false
set_option linter.unusedSimpArgs false

theorem inputs_okW {ls : List Ln} (hg : laGoodF ls = true) (p : Int) : okW (inputsL ls p) := inputs_ok ((widths_good ls).2 hg).2.2.1 p
theorem inWF_good {ls : List Ln} (hg : laGoodF ls = true) {p : Int} (hp : inB p 0 1 = true) : inWF ls p = (inputsL ls p, true) := by unfold inWF; rw [if_pos ⟨hg, hp⟩]
theorem inWF_bad {ls : List Ln} (hg : laGoodF ls = false) (p : Int) : inWF ls p = ([], false) := by unfold inWF; rw [if_neg (by rw [hg]; simp)]
set_option maxRecDepth 20000 in
set_option maxHeartbeats 4000000 in
theorem areValues_any (w : World) (ao aa ba : Option Addr) (n c na ca nb cb : Nat) (ls : List Ln) (a b : List Int) (h : Lns w w.heap.size ao n ls) (hs : okS ls) (hnc : n ≤ c) (ha : Ints w w.heap.size aa na a) (hb : Ints w w.heap.size ba nb b) :
    Calls Try.prog 48 #[.slice ao n c, .slice aa na ca, .slice ba nb cb] w (RetB (askedB ls a b) w) := by
  go_enter Try.func48, Try.ntmps48
  go_wp2_with fail
  refine (impl_InputWidths_any _ _ _ _ _ 0 h hs hnc).mono ?_
  rintro e w1 ⟨a1, n1, c1, rfl, ho1, hb1⟩
  cases hg : laGoodF ls
  · have HF : Hid (askedB ls a b = false) := by show _ = _; unfold askedB; rw [hg]; rfl
    rw [inWF_bad hg 0]
    have HG := Lib.hid hg
    clear hg ho1
    go_wp2_with fail
    refine (impl_InputWidths_any _ _ _ _ _ 1 ((h.below hb1 (Nat.le_refl _)).up hb1.size) hs hnc).mono ?_
    rintro e w2 ⟨a2, n2, c2, rfl, ho2, hb2⟩
    rw [inWF_bad HG.out 1]
    clear ho2
    go_wp2_with fail
    go_ret
    exact ⟨ret_bool HF.out.symm, hb1.trans (hb2.mono hb1.size)⟩
  rw [inWF_good hg rfl] at ho1 ⊢
  have HG := Lib.hid hg
  have HO1 := Lib.hid ho1
  clear hg ho1
  go_wp2_with fail
  refine (impl_InputWidths_any _ _ _ _ _ 1 ((h.below hb1 (Nat.le_refl _)).up hb1.size) hs hnc).mono ?_
  rintro e w2 ⟨a2, n2, c2, rfl, ho2, hb2⟩
  rw [inWF_good HG.out rfl] at ho2 ⊢
  have hbw2 := hb1.trans (hb2.mono hb1.size)
  have HI1 := Lib.hid ((HO1.out.below hb2 (Nat.le_refl _)).ints)
  have HI2 := Lib.hid ho2.ints
  have HA := Lib.hid (ha.below hbw2 (Nat.le_refl _))
  have HB := Lib.hid (hb.below hbw2 (Nat.le_refl _))
  clear ho2
  cases hf0 : fitB (inputsL ls 0) a
  · have HF : Hid (askedB ls a b = false) := by show _ = _; unfold askedB; rw [HG.out, hf0]; rfl
    have HF0 := Lib.hid hf0
    clear hf0
    go_wp2_with (go_at_call 74; refine (fitWidths_any _ _ _ _ _ _ _ _ _ _ _ HA.out HI1.out (inputs_okW HG.out 0)).mono ?_; rintro e w' ⟨rfl, rfl⟩; rw [HF0.out])
    go_ret
    exact ⟨ret_bool HF.out.symm, hbw2⟩
  · have HF0 := Lib.hid hf0
    clear hf0
    have HF : Hid (askedB ls a b = fitB (inputsL ls 1) b) := by show _ = _; unfold askedB; rw [HG.out, HF0.out]; rfl
    go_wp2_with fail
    refine (fitWidths_any _ _ _ _ _ _ _ _ _ _ _ HA.out HI1.out (inputs_okW HG.out 0)).mono ?_
    rintro e w' ⟨rfl, rfl⟩
    rw [HF0.out]
    go_wp2_with fail
    refine (fitWidths_any _ _ _ _ _ _ _ _ _ _ _ HB.out HI2.out (inputs_okW HG.out 1)).mono ?_
    rintro e w' ⟨rfl, rfl⟩
    rw [← HF.out]
    go_wp2_with fail
    go_ret
    exact ⟨rfl, hbw2⟩
set_option maxRecDepth 20000 in
set_option maxHeartbeats 4000000 in
theorem laAsked_any (w : World) (ao aa ba : Option Addr) (n c na ca nb cb : Nat) (ls : List Ln) (a b : List Int) (h : Lns w w.heap.size ao n ls) (hs : okS ls) (hn20 : n ≤ 1048576) (hnc : n ≤ c) (ha : Ints w w.heap.size aa na a) (hb : Ints w w.heap.size ba nb b) :
    Calls Try.prog 46 #[.slice ao n c, .slice aa na ca, .slice ba nb cb] w (RetB (askedB ls a b) w) := by
  go_enter Try.func46, Try.ntmps46
  go_wp2_with fail
  refine (laGood_any _ _ _ _ _ h hs hnc).mono ?_
  rintro e w1 ⟨rfl, hb1⟩
  cases hg : laGoodF ls
  · have HF : Hid (askedB ls a b = false) := by show _ = _; unfold askedB; rw [hg]; rfl
    clear hg
    go_wp2_with fail
    go_ret
    exact ⟨ret_bool HF.out.symm, hb1⟩
  have HG := Lib.hid hg
  clear hg
  go_wp2_with fail
  refine (laInputs_any _ w.heap.size _ _ _ _ 0 (h.below hb1 (Nat.le_refl _)) hb1.size hn20).mono ?_
  rintro e w2 ⟨a2, n2, c2, rfl, ho2, hb2⟩
  have hbw2 := hb1.trans (hb2.mono hb1.size)
  have HI1 := Lib.hid ho2.ints
  have HA := Lib.hid (ha.below hbw2 (Nat.le_refl _))
  clear ho2
  go_wp2_with fail
  refine (laFit_any _ _ _ _ _ _ _ _ _ _ _ HA.out HI1.out (inputs_okW HG.out 0)).mono ?_
  rintro e w' ⟨rfl, rfl⟩
  cases hf0 : fitB (inputsL ls 0) a
  · have HF : Hid (askedB ls a b = false) := by show _ = _; unfold askedB; rw [HG.out, hf0]; rfl
    clear hf0
    go_wp2_with fail
    go_ret
    exact ⟨ret_bool HF.out.symm, hbw2⟩
  have HF : Hid (askedB ls a b = fitB (inputsL ls 1) b) := by show _ = _; unfold askedB; rw [HG.out, hf0]; rfl
  clear hf0
  go_wp2_with fail
  refine (laInputs_any _ w.heap.size _ _ _ _ 1 (h.below hbw2 (Nat.le_refl _)) hbw2.size hn20).mono ?_
  rintro e w3 ⟨a3, n3, c3, rfl, ho3, hb3⟩
  have hbw3 := hbw2.trans (hb3.mono hbw2.size)
  have HI2 := Lib.hid ho3.ints
  have HB := Lib.hid (hb.below hbw3 (Nat.le_refl _))
  clear ho3
  go_wp2_with fail
  refine (laFit_any _ _ _ _ _ _ _ _ _ _ _ HB.out HI2.out (inputs_okW HG.out 1)).mono ?_
  rintro e w' ⟨rfl, rfl⟩
  rw [← HF.out]
  go_wp2_with fail
  go_ret
  exact ⟨rfl, hbw3⟩
end Go.Proofs.Ytglehpmaniabbaa
