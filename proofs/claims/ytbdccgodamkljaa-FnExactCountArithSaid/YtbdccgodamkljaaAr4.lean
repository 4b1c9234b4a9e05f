/-
  Arithmetic circuits: the answers of IsArith and CountArith.
-/
import Derived.Test.YtbdccgodamkljaaAr3
namespace Go.Proofs.Ytbdccgodamkljaa
open Go.RowKit
set_option linter.unusedVariables false
set_option linter.unusedSimpArgs false

theorem isArith_facts {p i0 i1 : Int} {gs os : List Int} {gn on : Nat} (hg : gs.length = gn * 3) (ho : os.length = on) (h : isArithF p i0 i1 gs os = true) :
    (2 ≤ p ∧ p ≤ 251) ∧ inB i0 0 8 = true ∧ inB i1 0 8 = true ∧ gn ≤ 100 ∧ on ≤ 20 ∧ okA p (gts gs) (i0 + i1) = true ∧ allIn 0 (i0 + i1 + gn - 1) os = true := by
  simp only [isArithF, Bool.and_eq_true, decide_eq_true_eq, gts_length gn gs hg] at h
  obtain ⟨h0, h1, h2, h3, h4, h5, h6⟩ := h
  simp only [primeB, Bool.and_eq_true, inB_iff] at h0
  exact ⟨h0.1, h1, h2, by omega, by omega, h5, h6⟩
theorem spec_IsArith_any (w : World) (p i0 i1 : Int) (ga oa : Option Addr) (gn gc on oc : Nat) (gs os : List Int) (hg : Flat 3 w w.heap.size ga gn gs) (ho : Ints w w.heap.size oa on os) :
    Calls Try.prog 21 #[arithV p i0 i1 ga gn gc oa on oc] w (RetB (isArithF p i0 i1 gs os) w) := by
  have hb0 : Below w.heap.size w (w.alloc (.cells #[.int .i64 p, .int .i64 i0, .int .i64 i1, .slice ga gn gc, .slice oa on oc] 39)) := (Below.refl _ _).alloc (Nat.le_refl _) _
  have hbx := boxA_new w p i0 i1 ga gn gc oa on oc 39
  have hsz : w.heap.size < (w.alloc (.cells #[.int .i64 p, .int .i64 i0, .int .i64 i1, .slice ga gn gc, .slice oa on oc] 39)).heap.size := by simp
  have hg1 := (hg.below hb0 (Nat.le_refl _)).up hb0.size
  have ho1 := (ho.below hb0 (Nat.le_refl _)).up hb0.size
  have hgl := Lib.hid hg.1
  have hol := Lib.hid ho.1
  have hml := Lib.hid (gts_length gn gs hg.1)
  unfold arithV
  go_enter Try.func21, Try.ntmps21
  go_wp2_with fail
  refine (arGood_any _ _ _ _ _ _ _ _ _ _ _ _ hg1 ho1).mono ?_
  rintro e w1 ⟨rfl, hb1⟩
  go_wp2_with fail
  go_ret
  exact ⟨rfl, hb0.trans (hb1.mono hb0.size)⟩
def countArithF (p i0 i1 : Int) (gs os : List Int) : List Int × Bool := if isArithF p i0 i1 gs os = true then (cntK (gts gs), true) else ([], false)
theorem impl_CountArith_any (w : World) (p i0 i1 : Int) (ga oa : Option Addr) (gn gc on oc : Nat) (gs os : List Int) (hg : Flat 3 w w.heap.size ga gn gs) (ho : Ints w w.heap.size oa on os) :
    Calls Try.prog 39 #[arithV p i0 i1 ga gn gc oa on oc] w (RetIB (countArithF p i0 i1 gs os) w) := by
  have hb0 : Below w.heap.size w (w.alloc (.cells #[.int .i64 p, .int .i64 i0, .int .i64 i1, .slice ga gn gc, .slice oa on oc] 39)) := (Below.refl _ _).alloc (Nat.le_refl _) _
  have hbx := boxA_new w p i0 i1 ga gn gc oa on oc 39
  have hsz : w.heap.size < (w.alloc (.cells #[.int .i64 p, .int .i64 i0, .int .i64 i1, .slice ga gn gc, .slice oa on oc] 39)).heap.size := by simp
  have hg1 := (hg.below hb0 (Nat.le_refl _)).up hb0.size
  have ho1 := (ho.below hb0 (Nat.le_refl _)).up hb0.size
  have hgl := Lib.hid hg.1
  have hol := Lib.hid ho.1
  have hml := Lib.hid (gts_length gn gs hg.1)
  unfold arithV
  cases hc : isArithF p i0 i1 gs os
  · go_enter Try.func39, Try.ntmps39
    go_wp2_with (go_at_call 23; refine (impl_IsArith_any _ _ _ _ _ _ _ _ _ _ _ _ hg1 ho1).mono ?_; rintro e w1 ⟨rfl, hb1⟩; rw [hc])
    go_ret2
    exact ⟨none, 0, 0, by simp [countArithF, hc], by simpa [countArithF, hc] using OwnI.nil _ _ _, hb0.trans (hb1.mono hb0.size)⟩
  obtain ⟨r0, r1, r2, r3, r4, r5, r6⟩ := isArith_facts hgl.out hol.out hc
  have HK := Lib.hid (okA_kinds r5)
  have HE : Hid (countArithF p i0 i1 gs os = (cntK (gts gs), true)) := by show _ = _; simp [countArithF, hc]
  go_enter Try.func39, Try.ntmps39
  go_wp2_with fail
  generalize (w.alloc (.cells #[.int .i64 p, .int .i64 i0, .int .i64 i1, .slice ga gn gc, .slice oa on oc] 39)) = w0 at *
  refine (impl_IsArith_any _ _ _ _ _ _ _ _ _ _ _ _ hg1 ho1).mono ?_
  rintro e w1 ⟨rfl, hb1⟩
  rw [hc]
  have hbw1 := hb0.trans (hb1.mono hb0.size)
  have hbx1 := hbx.below hb1 hsz
  have hsz1 := Nat.lt_of_lt_of_le hsz hb1.size
  obtain ⟨c0, c1, c2, c3, c4⟩ := hbx1
  have hbx1 := Lib.hid (hbx.below hb1 hsz)
  go_wp2_with fail
  refine (countKinds_any _ _ _ _ _ ((hg1.below hb1 (Nat.le_refl _)).up hb1.size) (by omega) HK.out).mono ?_
  rintro e w2 ⟨a2, n2, c2, rfl, ho2, hb2⟩
  go_wp2_with fail
  go_ret2
  exact ⟨_, _, _, by rw [HE.out]; rfl, by rw [HE.out]; exact ho2.up hbw1.size, hbw1.trans (hb2.mono hbw1.size)⟩
theorem spec_CountArith_any (w : World) (p i0 i1 : Int) (ga oa : Option Addr) (gn gc on oc : Nat) (gs os : List Int) (hg : Flat 3 w w.heap.size ga gn gs) (ho : Ints w w.heap.size oa on os) :
    Calls Try.prog 38 #[arithV p i0 i1 ga gn gc oa on oc] w (RetIB (countArithF p i0 i1 gs os) w) := by
  have hb0 : Below w.heap.size w (w.alloc (.cells #[.int .i64 p, .int .i64 i0, .int .i64 i1, .slice ga gn gc, .slice oa on oc] 39)) := (Below.refl _ _).alloc (Nat.le_refl _) _
  have hbx := boxA_new w p i0 i1 ga gn gc oa on oc 39
  have hsz : w.heap.size < (w.alloc (.cells #[.int .i64 p, .int .i64 i0, .int .i64 i1, .slice ga gn gc, .slice oa on oc] 39)).heap.size := by simp
  have hg1 := (hg.below hb0 (Nat.le_refl _)).up hb0.size
  have ho1 := (ho.below hb0 (Nat.le_refl _)).up hb0.size
  have hgl := Lib.hid hg.1
  have hol := Lib.hid ho.1
  have hml := Lib.hid (gts_length gn gs hg.1)
  unfold arithV
  cases hc : isArithF p i0 i1 gs os
  · go_enter Try.func38, Try.ntmps38
    go_wp2_with (go_at_call 63; refine (arGood_any _ _ _ _ _ _ _ _ _ _ _ _ hg1 ho1).mono ?_; rintro e w1 ⟨rfl, hb1⟩; rw [hc])
    go_ret2
    exact ⟨none, 0, 0, by simp [countArithF, hc], by simpa [countArithF, hc] using OwnI.nil _ _ _, hb0.trans (hb1.mono hb0.size)⟩
  obtain ⟨r0, r1, r2, r3, r4, r5, r6⟩ := isArith_facts hgl.out hol.out hc
  have HK := Lib.hid (okA_kinds r5)
  have HE : Hid (countArithF p i0 i1 gs os = (cntK (gts gs), true)) := by show _ = _; simp [countArithF, hc]
  obtain ⟨i0', hi, hz0, hz1, hz2⟩ := info_parts int_info
  go_enter Try.func38, Try.ntmps38
  go_wp2_with fail
  generalize (w.alloc (.cells #[.int .i64 p, .int .i64 i0, .int .i64 i1, .slice ga gn gc, .slice oa on oc] 39)) = w0 at *
  refine (arGood_any _ _ _ _ _ _ _ _ _ _ _ _ hg1 ho1).mono ?_
  rintro e w1 ⟨rfl, hb1⟩
  rw [hc]
  have hbw1 := hb0.trans (hb1.mono hb0.size)
  have hbx1 := hbx.below hb1 hsz
  have hsz1 := Nat.lt_of_lt_of_le hsz hb1.size
  obtain ⟨c0, c1, c2, c3, c4⟩ := hbx1
  have hbx1 := Lib.hid (hbx.below hb1 hsz)
  go_wp2_with (at_make; refine wpList_make_full _ rfl _ _ 23 rfl w.heap.size 3 i0' (.int .i64 0) 1 Try.underlying23 hi hz0 hz1 _ _ _ _ 4 rfl rfl rfl rfl (by rw [hz2]; decide) (by decide) hbw1.size ?_; intro w2 hown2 hg2; obtain ⟨e0, e1, e2, e3, e4⟩ := hbx1.out.below ((Below.refl _ _).grown hg2 (Nat.le_refl _) (by simp)) hsz1)
  replace hown2 := made_ints (by decide) hown2
  have hb2 : Below w.heap.size w w2 := hbw1.trans (((Below.refl _ _).grown hg2 (Nat.le_refl _) (by simp)).mono hbw1.size)
  clear hi hz0 hz1 hz2 hg2 c0 c1 c2 c3 c4
  go_loopw [14] (fun i wr => ∃ k : Nat, k ≤ gn ∧ i = .int .i64 k ∧ OwnI w.heap.size wr (some ⟨w1.heap.size, 0, none⟩) 4 4 (cntK ((gts gs).take k)) ∧ Below w.heap.size w wr) (fun i _ => gn - (intOf i).toNat)
  case atStart => exact ⟨0, Nat.zero_le _, rfl, by simpa [cntK] using hown2, hb2⟩
  case round =>
    obtain ⟨k, hk, rfl, hout, hbel⟩ := hrel
    by_cases hlt : k < gn
    · obtain ⟨b1, o1, x, y, z, rfl, hbb, hgk, c0, c1, c2⟩ := hg.gate hlt
      have g0 : wr.cell? ⟨b1, o1 + k * 3, none⟩ = some (.int .i64 x) := (hbel.cell (by exact hbb)).trans c0
      have g1 : wr.cell? ⟨b1, o1 + k * 3 + 1, none⟩ = some (.int .i64 y) := (hbel.cell (by exact hbb)).trans c1
      have g2 : wr.cell? ⟨b1, o1 + k * 3 + 2, none⟩ = some (.int .i64 z) := (hbel.cell (by exact hbb)).trans c2
      have hkk := HK.out k _ hgk
      have HSTEP := Lib.hid (cntK_step hgk)
      have hsm := cntK_small ((gts gs).take k)
      have htl : ((gts gs).take k).length = k := by simp [hml.out]; omega
      rw [htl] at hsm
      have hol := hout.1
      obtain ⟨O, hO⟩ : ∃ O, O = cntK ((gts gs).take k) := ⟨_, rfl⟩
      rw [← hO] at hout hsm HSTEP hol
      clear c0 c1 c2 hgk hO htl
      obtain ⟨xn, rfl⟩ := Int.eq_ofNat_of_zero_le hkk.1
      have hx4 : xn < 4 := by have := hkk.2; simp at this; omega
      obtain ⟨v, hv⟩ := get_at (i := xn) hol hx4
      obtain ⟨v0, v1⟩ := hsm xn v hv
      have HST2 : Hid (cntStep O ((xn : Int), y, z) = O.set xn (v + 1)) := by show _ = _; simp [cntStep, List.getD, hv]
      have hal : Below wr.heap.size wr (wr.alloc (.cells #[.int .i64 (xn : Int), .int .i64 y, .int .i64 z] 68)) := (Below.refl _ _).alloc (Nat.le_refl _) _
      have hbel2 := hbel.trans (hal.mono hbel.size)
      have hout2 := hout.below hal (Nat.le_refl _)
      have hcell := hout2.cell hv
      obtain ⟨s1, s2, f1⟩ := hout2.set (k := xn) hx4 (v + 1)
      have hs1 := Lib.hid s1
      have hs2 := Lib.hid s2
      clear hv s1 s2 hsm hol
      go_wp2_with fail
      go_roundw
      case rel => exact ⟨k + 1, by omega, by go_num, by rw [HSTEP.out, HST2.out]; exact hs1.out, below_set hbel2 hout2 hs2.out hbel2.size⟩
      case measure => simp [intOf] <;> omega
    · obtain rfl : k = gn := by omega
      go_wp2_with fail
      go_ret2
      rw [List.take_of_length_le (by rw [hml.out]; exact Nat.le_refl _)] at hout
      exact ⟨_, _, _, by rw [HE.out]; rfl, by rw [HE.out]; exact hout, hbel⟩
end Go.Proofs.Ytbdccgodamkljaa
