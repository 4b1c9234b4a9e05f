/-
  The language: the width of a name, both ways.
-/
import Derived.Test.YtphilajibbikkaaWd1
namespace Go.Proofs.Ytphilajibbikkaa
open Go.RowKit
set_option linter.unusedVariables false
set_option linter.unusedSimpArgs false

def wonF (ls : List Ln) (name : ByteArray) : Int × Bool := if laGoodF ls = true ∧ 0 ≤ findF ls name then (atN (laWidths ls) (findF ls name), true) else (0, false)
theorem RetNB.eq {r : Int × Bool} {a : Int} {b : Bool} {w w' : World} (h : r = (a, b)) (hb : Below w.heap.size w w') : RetNB r w (.returned (.tuple #[.int .i64 a, .bool b])) w' := by
  subst h; exact ⟨rfl, hb⟩
set_option maxRecDepth 20000 in
set_option maxHeartbeats 4000000 in
theorem spec_WidthOfName_any (w : World) (ao : Option Addr) (n c : Nat) (ls : List Ln) (name : ByteArray) (h : Lns w w.heap.size ao n ls) (hs : okS ls) (hn20 : n ≤ 1048576) (hnc : n ≤ c) :
    Calls Try.prog 14 #[.slice ao n c, .string name] w (RetNB (wonF ls name) w) := by
  have hl := Lib.hid h.1
  go_enter Try.func14, Try.ntmps14
  go_wp2_with fail
  refine (laGood_any _ _ _ _ _ h hs hnc).mono ?_
  rintro e w1 ⟨rfl, hb1⟩
  cases hg : laGoodF ls
  · have HF : Hid (wonF ls name = (0, false)) := by show _ = _; unfold wonF; rw [hg]; simp
    go_wp2_with fail
    go_ret2
    exact RetNB.eq HF.out hb1
  have HG := Lib.hid hg
  clear hg
  go_wp2_with fail
  refine (laFind_any _ _ _ _ _ _ name (h.below hb1 (Nat.le_refl _)) hb1.size).mono ?_
  rintro e w2 ⟨rfl, hb2⟩
  have hbw2 := hb1.trans (hb2.mono hb1.size)
  have hr := findF_range ls name
  by_cases hneg : findF ls name < 0
  · have HF : Hid (wonF ls name = (0, false)) := by show _ = _; unfold wonF; rw [if_neg (by omega)]
    have hneg' : decide (findF ls name < 0) = true := by simp [hneg]
    go_wp2_with fail
    go_ret2
    exact RetNB.eq HF.out hbw2
  have HF : Hid (wonF ls name = (atN (laWidths ls) (findF ls name), true)) := by show _ = _; unfold wonF; rw [if_pos ⟨HG.out, by omega⟩]
  obtain ⟨f, hf⟩ := Int.eq_ofNat_of_zero_le (show 0 ≤ findF ls name by omega)
  have hfn : f < n := by rw [← hl.out]; omega
  have HFF := Lib.hid hf
  rw [hf] at HF hneg hr ⊢
  have hneg' : decide ((f : Int) < 0) = false := by simp
  clear hr hneg hf
  go_wp2_with fail
  refine (laWidths_any _ _ _ _ _ ((h.below hbw2 (Nat.le_refl _)).up hbw2.size) hs hn20 hnc).mono ?_
  rintro e w3 ⟨a3, n3, c3, rfl, ho3, hb3⟩
  obtain rfl : n3 = n := by have := ho3.1; rw [laWidths_length, hl.out] at this; exact this.symm
  have hbw3 := hbw2.trans (hb3.mono hbw2.size)
  have HO3 := Lib.hid ho3
  go_wp2_with fail
  refine (laFind_any _ _ _ _ _ _ name (h.below hbw3 (Nat.le_refl _)) hbw3.size).mono ?_
  rintro e w4 ⟨rfl, hb4⟩
  rw [HFF.out]
  obtain ⟨b2, o2, y, rfl, hbb2, hy, q2⟩ := ((HO3.out.below hb4 (Nat.le_refl _)).ints).at hfn
  rw [atN_get hy] at HF
  clear hy ho3
  go_wp2_with fail
  go_ret2
  exact RetNB.eq HF.out (hbw3.trans (hb4.mono hbw3.size))
set_option maxRecDepth 20000 in
set_option maxHeartbeats 4000000 in
theorem impl_WidthOfName_any (w : World) (ao : Option Addr) (n c : Nat) (ls : List Ln) (name : ByteArray) (h : Lns w w.heap.size ao n ls) (hs : okS ls) (hnc : n ≤ c) :
    Calls Try.prog 15 #[.slice ao n c, .string name] w (RetNB (wonF ls name) w) := by
  have hl := Lib.hid h.1
  go_enter Try.func15, Try.ntmps15
  go_wp2_with fail
  refine (widths_any _ _ _ _ _ h hs hnc).mono ?_
  rintro e w1 ⟨a1, n1, c1, rfl, ho1, hb1⟩
  have hok := (widths_good ls).1
  rw [hok]
  have HO1 := Lib.hid ho1
  clear ho1 hok
  cases hg : laGoodF ls
  · have HF : Hid (wonF ls name = (0, false)) := by show _ = _; unfold wonF; rw [hg]; simp
    clear hg
    go_wp2_with fail
    refine (lineOf_any _ _ _ _ _ _ name (h.below hb1 (Nat.le_refl _)) hb1.size).mono ?_
    rintro e w2 ⟨rfl, hb2⟩
    go_wp2_with fail
    go_ret2
    exact RetNB.eq HF.out (hb1.trans (hb2.mono hb1.size))
  have HG := Lib.hid hg
  have hW := (widths_good ls).2 hg
  have HFA := Lib.hid (find_agree hW.2.2.2 name)
  have HO2 := HO1.out
  rw [hW.1] at HO2
  have HW := Lib.hid HO2
  clear HO2 hW hg HO1
  go_wp2_with fail
  refine (lineOf_any _ _ _ _ _ _ name (h.below hb1 (Nat.le_refl _)) hb1.size).mono ?_
  rintro e w2 ⟨rfl, hb2⟩
  have hbw2 := hb1.trans (hb2.mono hb1.size)
  rw [← HFA.out]
  have hr := findF_range ls name
  by_cases hneg : findF ls name < 0
  · have HF : Hid (wonF ls name = (0, false)) := by show _ = _; unfold wonF; rw [if_neg (by omega)]
    have hneg' : decide (findF ls name < 0) = true := by simp [hneg]
    go_wp2_with fail
    go_ret2
    exact RetNB.eq HF.out hbw2
  have HF : Hid (wonF ls name = (atN (laWidths ls) (findF ls name), true)) := by show _ = _; unfold wonF; rw [if_pos ⟨HG.out, by omega⟩]
  have hln := HW.out.1
  rw [laWidths_length] at hln
  obtain ⟨f, hf⟩ := Int.eq_ofNat_of_zero_le (show 0 ≤ findF ls name by omega)
  have hfn : f < n1 := by rw [← hln]; omega
  rw [hf] at HF hneg hr ⊢
  have hneg' : decide ((f : Int) < 0) = false := by simp
  clear hr hneg hf hln
  obtain ⟨b2, o2, y, rfl, hbb2, hy, q2⟩ := ((HW.out.below hb2 (Nat.le_refl _)).ints).at hfn
  rw [atN_get hy] at HF
  clear hy
  go_wp2_with fail
  go_ret2
  exact RetNB.eq HF.out hbw2
end Go.Proofs.Ytphilajibbikkaa
