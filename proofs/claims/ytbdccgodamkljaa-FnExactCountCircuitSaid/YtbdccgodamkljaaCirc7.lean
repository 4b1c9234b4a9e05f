/-
  Circuits: WireValues and EvalCircuit.
-/
import Derived.Test.YtbdccgodamkljaaCirc6
namespace Go.Proofs.Ytbdccgodamkljaa
open Go.RowKit
set_option linter.unusedVariables false
set_option linter.unusedSimpArgs false

def pickL (xs os : List Int) : List Int := os.map (atI xs)
theorem at_any (w : World) (B C : Nat) (ao bo : Option Addr) (n m c d : Nat) (xs os : List Int) (ha : Ints w B ao n xs) (hb : Ints w C bo m os) (hB : B ≤ w.heap.size) (hC : C ≤ w.heap.size) (hm : m ≤ 1000) (hin : allIn 0 (n - 1) os = true) :
    Calls Try.prog 97 #[.slice ao n c, .slice bo m d] w (RetI (pickL xs os) w) := by
  have hlx := Lib.hid ha.1
  have hlo := Lib.hid hb.1
  have HIN := Lib.hid (allIn_iff.1 hin)
  have hb0 : Below w.heap.size w (w.alloc (.cells #[] 3)) := (Below.refl _ _).alloc (Nat.le_refl _) _
  go_enter Try.func97, Try.ntmps97
  go_wp2_with fail
  go_loopw [5, 11] (fun out i wr => ∃ (k : Nat) (co : Option Addr) (cap : Nat), k ≤ m ∧ i = .int .i64 k ∧ out = .slice co k cap ∧ OwnI w.heap.size wr co k cap (pickL xs (os.take k)) ∧ Below w.heap.size w wr) (fun _ i _ => m - (intOf i).toNat)
  case atStart => exact ⟨0, _, _, Nat.zero_le _, rfl, rfl, OwnI.nil _ _ _, hb0⟩
  case round =>
    obtain ⟨k, co, cap, hk, rfl, rfl, hout, hbel⟩ := hrel
    by_cases hlt : k < m
    · obtain ⟨b2, o2, i, rfl, hb2, hi, q2⟩ := hb.at hlt
      have hii := HIN.out i (List.mem_of_getElem? hi)
      obtain ⟨j, rfl⟩ := Int.eq_ofNat_of_zero_le hii.1
      obtain ⟨b1, o1, x, rfl, hb1, hx, q1⟩ := ha.at (k := j) (by omega)
      have g2 : wr.cell? ⟨b2, o2 + k, none⟩ = some (.int .i64 (j : Int)) := (hbel.cell (by exact Nat.lt_of_lt_of_le hb2 hC)).trans q2
      have g1 : wr.cell? ⟨b1, o1 + j, none⟩ = some (.int .i64 x) := (hbel.cell (by exact Nat.lt_of_lt_of_le hb1 hB)).trans q1
      have HS : Hid (pickL xs (os.take (k + 1)) = pickL xs (os.take k) ++ [x]) := by
        show _ = _
        rw [pickL, pickL, List.take_add_one, hi]; simp [atI_get hx]
      have hj : (j : Int) < n := by omega
      clear hi hx q1 q2 hii
      go_wp2_with (at_builtin; refine wpList_append_i rfl _ _ rfl w.heap.size _ _ _ _ _ rfl rfl hout (by omega) hbel.size ?_; intro ao' cap' w4 hown4 hg4)
      have hbr4 := below_append hbel hout.2.2 hg4 hbel.size
      go_roundw
      case rel => exact ⟨k + 1, ao', cap', by omega, by go_num, rfl, by rw [HS.out]; exact hown4, hbr4⟩
      case measure => simp [intOf] <;> omega
    · obtain rfl : k = m := by omega
      go_wp2_with fail
      go_ret
      rw [List.take_of_length_le (by rw [hlo.out]; exact Nat.le_refl _)] at hout
      exact ⟨_, _, _, rfl, hout, hbel⟩
theorem ciPick_any (w : World) (B C : Nat) (ao bo : Option Addr) (n m c d : Nat) (xs os : List Int) (ha : Ints w B ao n xs) (hb : Ints w C bo m os) (hB : B ≤ w.heap.size) (hC : C ≤ w.heap.size) (hm : m ≤ 1000) (hin : allIn 0 (n - 1) os = true) :
    Calls Try.prog 86 #[.slice ao n c, .slice bo m d] w (RetI (pickL xs os) w) := by
  have hlx := Lib.hid ha.1
  have hlo := Lib.hid hb.1
  have HIN := Lib.hid (allIn_iff.1 hin)
  have hb0 : Below w.heap.size w w := Below.refl _ _
  go_enter Try.func86, Try.ntmps86
  go_wp2_with fail
  go_loopw [5, 10] (fun out i wr => ∃ (k : Nat) (co : Option Addr) (cap : Nat), k ≤ m ∧ i = .int .i64 k ∧ out = .slice co k cap ∧ OwnI w.heap.size wr co k cap (pickL xs (os.take k)) ∧ Below w.heap.size w wr) (fun _ i _ => m - (intOf i).toNat)
  case atStart => exact ⟨0, _, _, Nat.zero_le _, rfl, rfl, OwnI.nil _ _ _, hb0⟩
  case round =>
    obtain ⟨k, co, cap, hk, rfl, rfl, hout, hbel⟩ := hrel
    by_cases hlt : k < m
    · obtain ⟨b2, o2, i, rfl, hb2, hi, q2⟩ := hb.at hlt
      have hii := HIN.out i (List.mem_of_getElem? hi)
      obtain ⟨j, rfl⟩ := Int.eq_ofNat_of_zero_le hii.1
      obtain ⟨b1, o1, x, rfl, hb1, hx, q1⟩ := ha.at (k := j) (by omega)
      have g2 : wr.cell? ⟨b2, o2 + k, none⟩ = some (.int .i64 (j : Int)) := (hbel.cell (by exact Nat.lt_of_lt_of_le hb2 hC)).trans q2
      have g1 : wr.cell? ⟨b1, o1 + j, none⟩ = some (.int .i64 x) := (hbel.cell (by exact Nat.lt_of_lt_of_le hb1 hB)).trans q1
      have HS : Hid (pickL xs (os.take (k + 1)) = pickL xs (os.take k) ++ [x]) := by
        show _ = _
        rw [pickL, pickL, List.take_add_one, hi]; simp [atI_get hx]
      have hj : (j : Int) < n := by omega
      clear hi hx q1 q2 hii
      go_wp2_with (at_builtin; refine wpList_append_i rfl _ _ rfl w.heap.size _ _ _ _ _ rfl rfl hout (by omega) hbel.size ?_; intro ao' cap' w4 hown4 hg4)
      have hbr4 := below_append hbel hout.2.2 hg4 hbel.size
      go_roundw
      case rel => exact ⟨k + 1, ao', cap', by omega, by go_num, rfl, by rw [HS.out]; exact hown4, hbr4⟩
      case measure => simp [intOf] <;> omega
    · obtain rfl : k = m := by omega
      go_wp2_with fail
      go_ret
      rw [List.take_of_length_le (by rw [hlo.out]; exact Nat.le_refl _)] at hout
      exact ⟨_, _, _, rfl, hout, hbel⟩
theorem ciJoin_any (w : World) (B C : Nat) (ao bo : Option Addr) (n m c d : Nat) (xs ys : List Int) (ha : Ints w B ao n xs) (hb : Ints w C bo m ys) (hB : B ≤ w.heap.size) (hC : C ≤ w.heap.size) (hn : n ≤ 2000000) (hm : m ≤ 2000000) :
    Calls Try.prog 89 #[.slice ao n c, .slice bo m d] w (RetI (xs ++ ys) w) := by
  go_enter Try.func89, Try.ntmps89
  go_wp2_with fail
  refine (l1Own_any _ _ _ _ _ _ ha hB hn).mono ?_
  rintro e w1 ⟨a1, n1, c1, rfl, ho1, hb1⟩
  have hn1 : n1 = n := ho1.1.symm.trans ha.1
  have hb2 := hb.below hb1 hC
  have hn1' : n1 ≤ 2000000 := by omega
  clear hn1
  go_wp2_with (at_builtin; refine wpList_append_is rfl _ _ rfl w.heap.size _ _ _ _ _ _ _ _ _ rfl rfl ho1 hb2 (by omega) hb1.size ?_; intro ao' cap' w2 hown2 hg2)
  go_ret
  exact ⟨_, _, _, rfl, hown2, below_append hb1 ho1.2.2 hg2 hb1.size⟩
/-- There are a valid circuit and inputs for it. -/
def askedF (i0 i1 : Int) (gs os xs ys : List Int) : Bool := isCircF i0 i1 gs os && (goodB xs 64 && (goodB ys 64 && (decide ((xs.length : Int) = i0) && decide ((ys.length : Int) = i1))))
theorem good_20 {xs : List Int} {i : Int} (h : inB i 0 20 = true) (hl : (xs.length : Int) = i) : goodB xs 20 = goodB xs 64 := by
  have := inB_iff.1 h
  simp only [goodB]
  have e1 : decide ((xs.length : Int) ≤ 20) = true := by simp; omega
  have e2 : decide ((xs.length : Int) ≤ 64) = true := by simp; omega
  simp only [e1, e2]
theorem areInputs_any (w : World) (i0 i1 : Int) (ga oa ao bo : Option Addr) (gn gc on oc n m c d : Nat) (gs os xs ys : List Int) (hg : Flat 3 w w.heap.size ga gn gs) (ho : Ints w w.heap.size oa on os) (hx : Ints w w.heap.size ao n xs) (hy : Ints w w.heap.size bo m ys) :
    Calls Try.prog 90 #[circV i0 i1 ga gn gc oa on oc, .slice ao n c, .slice bo m d] w (RetB (askedF i0 i1 gs os xs ys) w) := by
  have hb0 : Below w.heap.size w (w.alloc (.cells #[.int .i64 i0, .int .i64 i1, .slice ga gn gc, .slice oa on oc] 30)) := (Below.refl _ _).alloc (Nat.le_refl _) _
  have hbx := boxC_new w i0 i1 ga gn gc oa on oc 30
  have hsz : w.heap.size < (w.alloc (.cells #[.int .i64 i0, .int .i64 i1, .slice ga gn gc, .slice oa on oc] 30)).heap.size := by simp
  have hg1 := (hg.below hb0 (Nat.le_refl _)).up hb0.size
  have ho1 := (ho.below hb0 (Nat.le_refl _)).up hb0.size
  have hgl := Lib.hid hg.1
  have hol := Lib.hid ho.1
  have hxl := Lib.hid hx.1
  have hyl := Lib.hid hy.1
  unfold circV
  cases hc : isCircF i0 i1 gs os
  · go_enter Try.func90, Try.ntmps90
    go_wp2_with (go_at_call 18; refine (impl_IsCircuit_any _ _ _ _ _ _ _ _ _ _ _ hg1 ho1).mono ?_; rintro e w1 ⟨rfl, hb1⟩; rw [hc])
    go_ret
    exact ⟨ret_bool (by simp [askedF, hc]), hb0.trans (hb1.mono hb0.size)⟩
  obtain ⟨r0, r1, _, _, _, _⟩ := isCirc_facts hgl.out hol.out hc
  have HC := Lib.hid hc
  go_enter Try.func90, Try.ntmps90
  go_wp2_with fail
  generalize (w.alloc (.cells #[.int .i64 i0, .int .i64 i1, .slice ga gn gc, .slice oa on oc] 30)) = w0 at *
  refine (impl_IsCircuit_any _ _ _ _ _ _ _ _ _ _ _ hg1 ho1).mono ?_
  rintro e w1 ⟨rfl, hb1⟩
  rw [hc]
  have hbw1 := hb0.trans (hb1.mono hb0.size)
  have hx1 := (hx.below hbw1 (Nat.le_refl _)).up hbw1.size
  have hy1 := (hy.below hbw1 (Nat.le_refl _)).up hbw1.size
  have hbx1 := hbx.below hb1 hsz
  have hsz1 := Nat.lt_of_lt_of_le hsz hb1.size
  have HR0 := Lib.hid r0
  have HR1 := Lib.hid r1
  go_wp2_with fail
  refine (impl_AreBits_any _ _ _ _ _ hx1).mono ?_
  rintro e w2 ⟨rfl, hb2⟩
  have hbw2 := hbw1.trans (hb2.mono hbw1.size)
  have hy2 := (hy1.below hb2 (Nat.le_refl _)).up hb2.size
  have hbx2 := hbx1.below hb2 hsz1
  have hsz2 := Nat.lt_of_lt_of_le hsz1 hb2.size
  cases hgx : goodB xs 64
  · go_wp2_with fail
    go_ret
    exact ⟨ret_bool (by simp [askedF, hgx]), hbw2⟩
  go_wp2_with fail
  refine (impl_AreBits_any _ _ _ _ _ hy2).mono ?_
  rintro e w3 ⟨rfl, hb3⟩
  have hbw3 := hbw2.trans (hb3.mono hbw2.size)
  have hbx3 := hbx2.below hb3 hsz2
  cases hgy : goodB ys 64
  · go_wp2_with fail
    go_ret
    exact ⟨ret_bool (by simp [askedF, hgy]), hbw3⟩
  obtain ⟨c0, c1, c2, c3⟩ := hbx3
  by_cases e0 : (n : Int) = i0
  rotate_left
  · have e0' : ((n : Int) == i0) = false := by simp [e0]
    go_wp2_with fail
    go_ret
    exact ⟨ret_bool (by simp [askedF, hxl.out, e0]), hbw3⟩
  by_cases e1 : (m : Int) = i1
  rotate_left
  · have e1' : ((m : Int) == i1) = false := by simp [e1]
    subst e0
    go_wp2_with fail
    go_ret
    exact ⟨ret_bool (by simp [askedF, hyl.out, e1]), hbw3⟩
  have HE : Hid (askedF i0 i1 gs os xs ys = true) := by show _ = _; simp [askedF, HC.out, hgx, hgy, hxl.out, hyl.out, e0, e1]
  subst e0
  subst e1
  go_wp2_with fail
  go_ret
  exact ⟨ret_bool HE.out.symm, hbw3⟩
theorem ciAsked_any (w : World) (i0 i1 : Int) (ga oa ao bo : Option Addr) (gn gc on oc n m c d : Nat) (gs os xs ys : List Int) (hg : Flat 3 w w.heap.size ga gn gs) (ho : Ints w w.heap.size oa on os) (hx : Ints w w.heap.size ao n xs) (hy : Ints w w.heap.size bo m ys) :
    Calls Try.prog 87 #[circV i0 i1 ga gn gc oa on oc, .slice ao n c, .slice bo m d] w (RetB (askedF i0 i1 gs os xs ys) w) := by
  have hb0 : Below w.heap.size w (w.alloc (.cells #[.int .i64 i0, .int .i64 i1, .slice ga gn gc, .slice oa on oc] 30)) := (Below.refl _ _).alloc (Nat.le_refl _) _
  have hbx := boxC_new w i0 i1 ga gn gc oa on oc 30
  have hsz : w.heap.size < (w.alloc (.cells #[.int .i64 i0, .int .i64 i1, .slice ga gn gc, .slice oa on oc] 30)).heap.size := by simp
  have hg1 := (hg.below hb0 (Nat.le_refl _)).up hb0.size
  have ho1 := (ho.below hb0 (Nat.le_refl _)).up hb0.size
  have hgl := Lib.hid hg.1
  have hol := Lib.hid ho.1
  have hxl := Lib.hid hx.1
  have hyl := Lib.hid hy.1
  unfold circV
  cases hc : isCircF i0 i1 gs os
  · go_enter Try.func87, Try.ntmps87
    go_wp2_with (go_at_call 54; refine (ciGood_any _ _ _ _ _ _ _ _ _ _ _ hg1 ho1).mono ?_; rintro e w1 ⟨rfl, hb1⟩; rw [hc])
    go_ret
    exact ⟨ret_bool (by simp [askedF, hc]), hb0.trans (hb1.mono hb0.size)⟩
  obtain ⟨r0, r1, _, _, _, _⟩ := isCirc_facts hgl.out hol.out hc
  have HC := Lib.hid hc
  go_enter Try.func87, Try.ntmps87
  go_wp2_with fail
  generalize (w.alloc (.cells #[.int .i64 i0, .int .i64 i1, .slice ga gn gc, .slice oa on oc] 30)) = w0 at *
  refine (ciGood_any _ _ _ _ _ _ _ _ _ _ _ hg1 ho1).mono ?_
  rintro e w1 ⟨rfl, hb1⟩
  rw [hc]
  have hbw1 := hb0.trans (hb1.mono hb0.size)
  have hx1 := (hx.below hbw1 (Nat.le_refl _)).up hbw1.size
  have hy1 := (hy.below hbw1 (Nat.le_refl _)).up hbw1.size
  have hbx1 := hbx.below hb1 hsz
  have hsz1 := Nat.lt_of_lt_of_le hsz hb1.size
  have HR0 := Lib.hid r0
  have HR1 := Lib.hid r1
  go_wp2_with fail
  refine (btGood_any _ _ _ _ _ _ _ hx1).mono ?_
  rintro e w' ⟨rfl, rfl⟩
  cases hgx : goodB xs 20
  · go_wp2_with fail
    go_ret
    exact ⟨ret_bool (by symm; simp only [askedF, Bool.and_eq_false_iff]; by_cases e : (xs.length : Int) = i0; · rw [good_20 HR0.out e] at hgx; simp [hgx]
                        · simp [e]), hbw1⟩
  go_wp2_with fail
  refine (btGood_any _ _ _ _ _ _ _ hy1).mono ?_
  rintro e w' ⟨rfl, rfl⟩
  cases hgy : goodB ys 20
  · go_wp2_with fail
    go_ret
    exact ⟨ret_bool (by symm; simp only [askedF, Bool.and_eq_false_iff]; by_cases e : (ys.length : Int) = i1; · rw [good_20 HR1.out e] at hgy; simp [hgy]
                        · simp [e]), hbw1⟩
  obtain ⟨c0, c1, c2, c3⟩ := hbx1
  by_cases e0 : (n : Int) = i0
  rotate_left
  · have e0' : ((n : Int) == i0) = false := by simp [e0]
    go_wp2_with fail
    go_ret
    exact ⟨ret_bool (by simp [askedF, hxl.out, e0]), hbw1⟩
  by_cases e1 : (m : Int) = i1
  rotate_left
  · have e1' : ((m : Int) == i1) = false := by simp [e1]
    subst e0
    go_wp2_with fail
    go_ret
    exact ⟨ret_bool (by simp [askedF, hyl.out, e1]), hbw1⟩
  have HE : Hid (askedF i0 i1 gs os xs ys = true) := by
    show _ = _
    rw [good_20 HR0.out (by rw [hxl.out]; exact e0)] at hgx
    rw [good_20 HR1.out (by rw [hyl.out]; exact e1)] at hgy
    simp [askedF, HC.out, hgx, hgy, hxl.out, hyl.out, e0, e1]
  subst e0
  subst e1
  go_wp2_with fail
  go_ret
  exact ⟨ret_bool HE.out.symm, hbw1⟩
end Go.Proofs.Ytbdccgodamkljaa
