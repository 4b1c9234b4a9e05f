/-
  Arithmetic circuits: the answer of ProductDepth.
-/
import Derived.Test.YtbdccgodamkljaaAr4
import Derived.Test.YtbdccgodamkljaaCirc7
namespace Go.Proofs.Ytbdccgodamkljaa
open Go.RowKit
set_option linter.unusedVariables false
set_option linter.unusedSimpArgs false

def mx (u v : Int) : Int := if u < v then v else u
theorem mx_le {u v m : Int} (h : 0 ≤ u ∧ u ≤ m) (k : 0 ≤ v ∧ v ≤ m) : 0 ≤ mx u v ∧ mx u v ≤ m := by unfold mx; split <;> omega
theorem l1Most_any (a b : Int) (w : World) : Calls Try.prog 83 #[.int .i64 a, .int .i64 b] w fun e w' => e = .returned (.int .i64 (mx a b)) ∧ w = w' := by
  by_cases h : b < a
  · go_enter Try.func83, Try.ntmps83
    go_wp2_with fail
    go_ret
    exact ⟨ret_int (by unfold mx; split <;> omega), rfl⟩
  · go_enter Try.func83, Try.ntmps83
    go_wp2_with fail
    go_ret
    exact ⟨ret_int (by unfold mx; split <;> omega), rfl⟩
theorem bit_any (b : Bool) (w : World) : Calls Try.prog 84 #[.bool b] w fun e w' => e = .returned (.int .i64 (if b = true then 1 else 0)) ∧ w = w' := by
  cases b
  · go_enter Try.func84, Try.ntmps84
    go_wp2_with fail
    go_ret
    exact ⟨rfl, rfl⟩
  · go_enter Try.func84, Try.ntmps84
    go_wp2_with fail
    go_ret
    exact ⟨rfl, rfl⟩
/-- The number of products on a way behind a gate. -/
def dstep (v : List Int) (g : Int × Int × Int) : Int :=
  if g.1 = 0 then mx (atI v g.2.1) (atI v g.2.2) else if g.1 = 1 then mx (atI v g.2.1) (atI v g.2.2) + 1 else if g.1 = 2 then atI v g.2.1 else 0
def depL (l : List (Int × Int × Int)) (v : List Int) : List Int := l.foldl (fun v g => v ++ [dstep v g]) v
theorem depL_step {l : List (Int × Int × Int)} {k : Nat} {g : Int × Int × Int} (h : l[k]? = some g) (v : List Int) : depL (l.take (k + 1)) v = depL (l.take k) v ++ [dstep (depL (l.take k) v) g] := by
  rw [depL, depL, List.take_add_one, h]; simp [List.foldl_append]
theorem depL_length (l : List (Int × Int × Int)) : ∀ v : List Int, (depL l v).length = v.length + l.length := by
  induction l with
  | nil => intro v; rfl
  | cons g l ih => intro v; rw [show depL (g :: l) v = depL l (v ++ [dstep v g]) from rfl, ih]; simp; omega
def smallL (m : Int) (o : List Int) : Prop := ∀ (i : Nat) (x : Int), o[i]? = some x → 0 ≤ x ∧ x ≤ m
theorem smallL_snoc {m : Int} {o : List Int} {x : Int} (h : smallL m o) (hx : 0 ≤ x ∧ x ≤ m + 1) : smallL (m + 1) (o ++ [x]) := by
  intro i y hy
  by_cases hi : i < o.length
  · rw [List.getElem?_append_left hi] at hy
    have := h i y hy
    omega
  · rw [List.getElem?_append_right (by omega)] at hy
    have : y = x := by
      rcases Nat.eq_zero_or_pos (i - o.length) with h0 | h0
      · rw [h0] at hy; simpa using hy.symm
      · rw [List.getElem?_eq_none (by simp; omega)] at hy; cases hy
    omega
theorem agate01 {p own : Int} {x y z : Int} (h : agateB p own (x, y, z) = true) (hx : x = 0 ∨ x = 1) : (0 ≤ y ∧ y < own) ∧ (0 ≤ z ∧ z < own) := by
  have e : (inB y 0 (own - 1) && inB z 0 (own - 1)) = true := by
    rcases hx with rfl | rfl <;> simpa [agateB] using h
  simp only [Bool.and_eq_true, inB_iff] at e
  omega
theorem agate2 {p own : Int} {y z : Int} (h : agateB p own (2, y, z) = true) : 0 ≤ y ∧ y < own := by
  have e : (inB y 0 (own - 1) && inB z 0 (p - 1)) = true := by simpa [agateB] using h
  simp only [Bool.and_eq_true, inB_iff] at e
  omega
def mostL (xs : List Int) : Int := xs.foldl mx 0
theorem mostL_step {xs : List Int} {k : Nat} {x : Int} (h : xs[k]? = some x) : mostL (xs.take (k + 1)) = mx (mostL (xs.take k)) x := by
  rw [mostL, mostL, List.take_add_one, h]; simp [List.foldl_append]
def prodF (p i0 i1 : Int) (gs os : List Int) : Int × Bool := if isArithF p i0 i1 gs os = true then (mostL (pickL (depL (gts gs) (List.replicate (i0.toNat + i1.toNat) 0)) os), true) else (0, false)
theorem spec_ProductDepth_any (w : World) (p i0 i1 : Int) (ga oa : Option Addr) (gn gc on oc : Nat) (gs os : List Int) (hg : Flat 3 w w.heap.size ga gn gs) (ho : Ints w w.heap.size oa on os) :
    Calls Try.prog 41 #[arithV p i0 i1 ga gn gc oa on oc] w (RetNB (prodF p i0 i1 gs os) w) := by
  have hb0 : Below w.heap.size w (w.alloc (.cells #[.int .i64 p, .int .i64 i0, .int .i64 i1, .slice ga gn gc, .slice oa on oc] 39)) := (Below.refl _ _).alloc (Nat.le_refl _) _
  have hbx := boxA_new w p i0 i1 ga gn gc oa on oc 39
  have hsz : w.heap.size < (w.alloc (.cells #[.int .i64 p, .int .i64 i0, .int .i64 i1, .slice ga gn gc, .slice oa on oc] 39)).heap.size := by simp
  have hg1 := (hg.below hb0 (Nat.le_refl _)).up hb0.size
  have ho1 := (ho.below hb0 (Nat.le_refl _)).up hb0.size
  have hgl := Lib.hid hg.1
  have hol := Lib.hid ho.1
  have hml := Lib.hid (gts_length gn gs hg.1)
  unfold arithV
  cases hc : isArithF p i0 i1 gs os
  · go_enter Try.func41, Try.ntmps41
    go_wp2_with (go_at_call 63; refine (arGood_any _ _ _ _ _ _ _ _ _ _ _ _ hg1 ho1).mono ?_; rintro e w1 ⟨rfl, hb1⟩; rw [hc])
    go_ret2
    exact ⟨by simp [prodF, hc], hb0.trans (hb1.mono hb0.size)⟩
  obtain ⟨r0, r1, r2, r3, r4, r5, r6⟩ := isArith_facts hgl.out hol.out hc
  have q0 := inB_iff.1 r1
  have q1 := inB_iff.1 r2
  obtain ⟨i0, rfl⟩ := Int.eq_ofNat_of_zero_le q0.1
  obtain ⟨i1, rfl⟩ := Int.eq_ofNat_of_zero_le q1.1
  have HOK : Hid (okA p (gts gs) ((i0 + i1 : Nat) : Int) = true) := by show _ = _; rw [Int.natCast_add]; exact r5
  have HIN : Hid (allIn 0 (((i0 + i1 + gn : Nat) : Int) - 1) os = true) := by show _ = _; rw [Int.natCast_add, Int.natCast_add]; exact r6
  have HE : Hid (prodF p (i0 : Int) (i1 : Int) gs os = (mostL (pickL (depL (gts gs) (List.replicate (i0 + i1) 0)) os), true)) := by show _ = _; simp [prodF, hc]
  have HR1 := Lib.hid r1
  have HR2 := Lib.hid r2
  clear r5 r6 r1 r2
  obtain ⟨i0', hi, hz0, hz1, hz2⟩ := info_parts int_info
  go_enter Try.func41, Try.ntmps41
  go_wp2_with fail
  generalize (w.alloc (.cells #[.int .i64 p, .int .i64 (i0 : Int), .int .i64 (i1 : Int), .slice ga gn gc, .slice oa on oc] 39)) = w0 at *
  refine (arGood_any _ _ _ _ _ _ _ _ _ _ _ _ hg1 ho1).mono ?_
  rintro e w1 ⟨rfl, hb1⟩
  rw [hc]
  have hbw1 := hb0.trans (hb1.mono hb0.size)
  have hsz1 := Nat.lt_of_lt_of_le hsz hb1.size
  obtain ⟨c0, c1, c2, c3, c4⟩ := hbx.below hb1 hsz
  have hbx1 := Lib.hid (hbx.below hb1 hsz)
  go_wp2_with fail
  refine (arInputs_any _ _ _ _ _ _ _ _ _ _ HR1.out HR2.out).mono ?_
  rintro e w2 ⟨rfl, hb2⟩
  have hbw2 := hbw1.trans (hb2.mono hbw1.size)
  have hsz2 := Nat.lt_of_lt_of_le hsz1 hb2.size
  have hbx2 := Lib.hid (hbx1.out.below hb2 hsz1)
  clear c0 c1 c2 c3 c4
  go_wp2_with (at_make; refine wpList_make_full _ rfl _ _ 23 rfl w2.heap.size 3 i0' (.int .i64 0) 1 Try.underlying23 hi hz0 hz1 _ _ _ _ (i0 + i1) rfl rfl (by omega) (by omega) (by rw [hz2]; omega) (by unfold maxLen; omega) (Nat.le_refl _) ?_; intro w3 hown3 hg3; obtain ⟨e0, e1, e2, e3, e4⟩ := hbx2.out.below ((Below.refl _ _).grown hg3 (Nat.le_refl _) (by simp)) hsz2)
  replace hown3 := made_ints (by omega) hown3
  have hb3 : Below w2.heap.size w2 w3 := (Below.refl _ _).grown hg3 (Nat.le_refl _) (by simp)
  clear hi hz0 hz1 hz2 hg3
  go_loopw [4, 20] (fun out i wr => ∃ (k : Nat) (co : Option Addr) (cap : Nat), k ≤ gn ∧ i = .int .i64 k ∧ out = .slice co (i0 + i1 + k) cap ∧ OwnI w2.heap.size wr co (i0 + i1 + k) cap (depL ((gts gs).take k) (List.replicate (i0 + i1) 0)) ∧ Hid (smallL k (depL ((gts gs).take k) (List.replicate (i0 + i1) 0))) ∧ Below w2.heap.size w2 wr) (fun _ i _ => gn - (intOf i).toNat)
  case atStart => exact ⟨0, _, _, Nat.zero_le _, rfl, rfl, by simpa [depL] using hown3, (by intro i x hx; simp [depL] at hx; rw [List.getElem?_replicate] at hx; split at hx <;> simp at hx; omega), hb3⟩
  case round =>
    obtain ⟨k, co, cap, hk, rfl, rfl, hout, hsm, hbel⟩ := hrel
    have hbelw := hbw2.trans (hbel.mono hbw2.size)
    by_cases hlt : k < gn
    · obtain ⟨b1, o1, kx, y, z, rfl, hbb, hgk, q0, q1, q2⟩ := hg.gate hlt
      have g0 : wr.cell? ⟨b1, o1 + k * 3, none⟩ = some (.int .i64 kx) := (hbelw.cell (by exact hbb)).trans q0
      have g1 : wr.cell? ⟨b1, o1 + k * 3 + 1, none⟩ = some (.int .i64 y) := (hbelw.cell (by exact hbb)).trans q1
      have g2 : wr.cell? ⟨b1, o1 + k * 3 + 2, none⟩ = some (.int .i64 z) := (hbelw.cell (by exact hbb)).trans q2
      have hgb := okA_at _ _ _ _ _ HOK.out hgk
      have hkx := agateB_kind hgb
      have HSTEP := Lib.hid (depL_step hgk (List.replicate (i0 + i1) 0))
      obtain ⟨V, hV⟩ : ∃ V, V = depL ((gts gs).take k) (List.replicate (i0 + i1) 0) := ⟨_, rfl⟩
      rw [← hV] at hout HSTEP hsm
      have hol2 := hout.1
      clear q0 q1 q2 hgk hV
      have hal : Below wr.heap.size wr (wr.alloc (.cells #[.int .i64 kx, .int .i64 y, .int .i64 z] 68)) := (Below.refl _ _).alloc (Nat.le_refl _) _
      have hbel2 := hbel.trans (hal.mono hbel.size)
      have hout2 := hout.below hal (Nat.le_refl _)
      have HBG := Lib.hid (heap_alloc_new wr (.cells #[.int .i64 kx, .int .i64 y, .int .i64 z] 68))
      by_cases k0 : kx = 0
      · subst k0
        obtain ⟨⟨ya, yb⟩, za, zb⟩ := agate01 hgb (by simp)
        obtain ⟨a, rfl⟩ := Int.eq_ofNat_of_zero_le ya
        obtain ⟨b, rfl⟩ := Int.eq_ofNat_of_zero_le za
        obtain ⟨u, hu⟩ := get_at (i := a) hol2 (by omega)
        obtain ⟨v, hv⟩ := get_at (i := b) hol2 (by omega)
        have su := hsm.out _ _ hu
        have sv := hsm.out _ _ hv
        obtain ⟨M, hM⟩ : ∃ M, M = mx u v := ⟨_, rfl⟩
        have sM := mx_le su sv
        have HR : Hid (dstep V (0, (a : Int), (b : Int)) = mx u v) := by show _ = _; simp [dstep, atI_get hu, atI_get hv]
        rw [← hM] at HR sM
        have HR2 : Hid (0 ≤ M ∧ M ≤ (k : Int) + 1) := by show _ ∧ _; omega
        obtain ⟨g, rfl, _, _⟩ := hout.blk (by omega)
        have y0 := hout2.cell hu
        have y1 := hout2.cell hv
        clear hu hv hgb hkx ya za hol2 hal hout
        go_wp2_with fail
        generalize wr.alloc (.cells #[.int .i64 0, .int .i64 (a : Int), .int .i64 (b : Int)] 68) = W2 at *
        have e0 : W2.cell? ⟨wr.heap.size, 0, none⟩ = some (.int .i64 0) := by rw [cell_of_row W2 _ 0 _ _ (0, 0) HBG.out]; rfl
        have e1 : W2.cell? ⟨wr.heap.size, 1, none⟩ = some (.int .i64 (a : Int)) := by rw [cell_of_row W2 _ 1 _ _ (0, 0) HBG.out]; rfl
        have e2 : W2.cell? ⟨wr.heap.size, 2, none⟩ = some (.int .i64 (b : Int)) := by rw [cell_of_row W2 _ 2 _ _ (0, 0) HBG.out]; rfl
        have yb' : (a : Int) < (i0 : Int) + i1 + k := by omega
        have zb' : (b : Int) < (i0 : Int) + i1 + k := by omega
        go_quiet ((go_at_call 83; exact quiet_left (l1Most_any _ _ _)))
        try rw [← hM]
        have hout3 := hout2.drewN nq
        have hbel3 := bdrewN hbel2 nq
        go_wp2_with (at_builtin; refine wpList_append_i rfl _ _ rfl w2.heap.size _ _ _ _ _ rfl (by first | rfl | (simp; rfl)) hout3 (by omega) hbel3.size ?_; intro ao' cap' w4 hown4 hg4)
        have hbr4 := below_append hbel3 hout3.2.2 hg4 hbel3.size
        go_roundw
        case rel => exact ⟨k + 1, ao', cap', by omega, by go_num, by rw [Nat.add_assoc], by rw [← Nat.add_assoc, HSTEP.out, HR.out, hM]; exact hown4, by rw [HSTEP.out, HR.out, Int.natCast_succ]; exact smallL_snoc hsm.out HR2.out, hbr4⟩
        case measure => simp [intOf] <;> omega
      by_cases k1 : kx = 1
      · subst k1
        obtain ⟨⟨ya, yb⟩, za, zb⟩ := agate01 hgb (by simp)
        obtain ⟨a, rfl⟩ := Int.eq_ofNat_of_zero_le ya
        obtain ⟨b, rfl⟩ := Int.eq_ofNat_of_zero_le za
        obtain ⟨u, hu⟩ := get_at (i := a) hol2 (by omega)
        obtain ⟨v, hv⟩ := get_at (i := b) hol2 (by omega)
        have su := hsm.out _ _ hu
        have sv := hsm.out _ _ hv
        obtain ⟨M, hM⟩ : ∃ M, M = mx u v := ⟨_, rfl⟩
        have sM := mx_le su sv
        have HR : Hid (dstep V (1, (a : Int), (b : Int)) = mx u v + 1) := by show _ = _; simp [dstep, atI_get hu, atI_get hv]
        rw [← hM] at HR sM
        have HR2 : Hid (0 ≤ M + 1 ∧ M + 1 ≤ (k : Int) + 1) := by show _ ∧ _; omega
        obtain ⟨g, rfl, _, _⟩ := hout.blk (by omega)
        have y0 := hout2.cell hu
        have y1 := hout2.cell hv
        clear hu hv hgb hkx ya za hol2 hal hout
        go_wp2_with fail
        generalize wr.alloc (.cells #[.int .i64 1, .int .i64 (a : Int), .int .i64 (b : Int)] 68) = W2 at *
        have e0 : W2.cell? ⟨wr.heap.size, 0, none⟩ = some (.int .i64 1) := by rw [cell_of_row W2 _ 0 _ _ (0, 0) HBG.out]; rfl
        have e1 : W2.cell? ⟨wr.heap.size, 1, none⟩ = some (.int .i64 (a : Int)) := by rw [cell_of_row W2 _ 1 _ _ (0, 0) HBG.out]; rfl
        have e2 : W2.cell? ⟨wr.heap.size, 2, none⟩ = some (.int .i64 (b : Int)) := by rw [cell_of_row W2 _ 2 _ _ (0, 0) HBG.out]; rfl
        have yb' : (a : Int) < (i0 : Int) + i1 + k := by omega
        have zb' : (b : Int) < (i0 : Int) + i1 + k := by omega
        go_quiet ((go_at_call 83; exact quiet_left (l1Most_any _ _ _)))
        try rw [← hM]
        have hout3 := hout2.drewN nq
        have hbel3 := bdrewN hbel2 nq
        go_wp2_with (at_builtin; refine wpList_append_i rfl _ _ rfl w2.heap.size _ _ _ _ _ rfl (by first | rfl | (simp; rfl)) hout3 (by omega) hbel3.size ?_; intro ao' cap' w4 hown4 hg4)
        have hbr4 := below_append hbel3 hout3.2.2 hg4 hbel3.size
        go_roundw
        case rel => exact ⟨k + 1, ao', cap', by omega, by go_num, by rw [Nat.add_assoc], by rw [← Nat.add_assoc, HSTEP.out, HR.out, hM]; exact hown4, by rw [HSTEP.out, HR.out, Int.natCast_succ]; exact smallL_snoc hsm.out HR2.out, hbr4⟩
        case measure => simp [intOf] <;> omega
      by_cases k2 : kx = 2
      · subst k2
        obtain ⟨ya, yb⟩ := agate2 hgb
        obtain ⟨a, rfl⟩ := Int.eq_ofNat_of_zero_le ya
        obtain ⟨u, hu⟩ := get_at (i := a) hol2 (by omega)
        have su := hsm.out _ _ hu
        have HR : Hid (dstep V (2, (a : Int), z) = u) := by show _ = _; simp [dstep, atI_get hu]
        have HR2 : Hid (0 ≤ u ∧ u ≤ (k : Int) + 1) := by show _ ∧ _; omega
        obtain ⟨g, rfl, _, _⟩ := hout.blk (by omega)
        have y0 := hout2.cell hu
        clear hu hgb hkx ya hol2 hal hout
        go_wp2_with (at_builtin; refine wpList_append_i rfl _ _ rfl w2.heap.size _ _ _ _ _ rfl (by first | rfl | (simp; rfl)) hout2 (by omega) hbel2.size ?_; intro ao' cap' w4 hown4 hg4)
        have hbr4 := below_append hbel2 hout2.2.2 hg4 hbel2.size
        go_roundw
        case rel => exact ⟨k + 1, ao', cap', by omega, by go_num, by rw [Nat.add_assoc], by rw [← Nat.add_assoc, HSTEP.out, HR.out]; exact hown4, by rw [HSTEP.out, HR.out, Int.natCast_succ]; exact smallL_snoc hsm.out HR2.out, hbr4⟩
        case measure => simp [intOf] <;> omega
      · obtain rfl : kx = 3 := by simp at hkx; omega
        have HR : Hid (dstep V (3, y, z) = 0) := by show _ = _; simp [dstep]
        have HR2 : Hid (0 ≤ (0 : Int) ∧ (0 : Int) ≤ (k : Int) + 1) := by show _ ∧ _; omega
        clear hgb hkx hol2 hal hout
        go_wp2_with (at_builtin; refine wpList_append_i rfl _ _ rfl w2.heap.size _ _ _ _ _ rfl (by first | rfl | (simp; rfl)) hout2 (by omega) hbel2.size ?_; intro ao' cap' w4 hown4 hg4)
        have hbr4 := below_append hbel2 hout2.2.2 hg4 hbel2.size
        go_roundw
        case rel => exact ⟨k + 1, ao', cap', by omega, by go_num, by rw [Nat.add_assoc], by rw [← Nat.add_assoc, HSTEP.out, HR.out]; exact hown4, by rw [HSTEP.out, HR.out, Int.natCast_succ]; exact smallL_snoc hsm.out HR2.out, hbr4⟩
        case measure => simp [intOf] <;> omega
    · obtain rfl : k = gn := by omega
      rw [List.take_of_length_le (by rw [hml.out]; exact Nat.le_refl _)] at hout
      obtain ⟨V, hV⟩ : ∃ V, V = depL (gts gs) (List.replicate (i0 + i1) 0) := ⟨_, rfl⟩
      rw [← hV] at hout HE
      clear hV hsm
      obtain ⟨e0, e1, e2, e3, e4⟩ := hbx2.out.below hbel hsz2
      go_wp2_with fail
      refine (ciPick_any _ _ _ _ _ _ _ _ _ _ _ hout.ints ((ho.below hbelw (Nat.le_refl _)).up hbelw.size) (Nat.le_refl _) (Nat.le_refl _) (by omega) HIN.out).mono ?_
      rintro e w5 ⟨a5, n5, c5, rfl, ho5, hb5⟩
      have hI5 := ho5.ints
      have hbe := hbelw.trans (hb5.mono hbelw.size)
      have h5l := Lib.hid ho5.1
      have hn5 := ho5.le
      obtain ⟨P, hP⟩ : ∃ P, P = pickL V os := ⟨_, rfl⟩
      rw [← hP] at hI5 HE h5l
      clear hP ho5
      go_wp2_with fail
      go_loop [8, 70] (fun m i => ∃ j : Nat, j ≤ n5 ∧ i = .int .i64 j ∧ m = .int .i64 (mostL (P.take j))) (fun _ i => n5 - (intOf i).toNat)
      case atStart => exact ⟨0, Nat.zero_le _, rfl, rfl⟩
      case round =>
        obtain ⟨j, j1, rfl, rfl⟩ := hrel
        by_cases hj : j < n5
        · obtain ⟨b2, o2, x, rfl, hb2', hx, q2⟩ := hI5.at hj
          have HM := Lib.hid (mostL_step hx)
          clear hx
          go_wp2_with (go_at_call 83; refine (l1Most_any _ _ _).mono ?_; rintro e w' ⟨rfl, rfl⟩)
          go_round
          case rel => exact ⟨j + 1, by omega, by go_num, by rw [HM.out]⟩
          case measure => simp [intOf] <;> omega
        · obtain rfl : j = n5 := by omega
          go_wp2_with fail
          go_ret2
          exact ⟨by rw [HE.out, List.take_of_length_le (by rw [h5l.out]; exact Nat.le_refl _)] <;> rfl, hbe⟩
set_option maxHeartbeats 4000000 in
theorem impl_ProductDepth_any (w : World) (p i0 i1 : Int) (ga oa : Option Addr) (gn gc on oc : Nat) (gs os : List Int) (hg : Flat 3 w w.heap.size ga gn gs) (ho : Ints w w.heap.size oa on os) :
    Calls Try.prog 42 #[arithV p i0 i1 ga gn gc oa on oc] w (RetNB (prodF p i0 i1 gs os) w) := by
  have hb0 : Below w.heap.size w (w.alloc (.cells #[.int .i64 p, .int .i64 i0, .int .i64 i1, .slice ga gn gc, .slice oa on oc] 39)) := (Below.refl _ _).alloc (Nat.le_refl _) _
  have hbx := boxA_new w p i0 i1 ga gn gc oa on oc 39
  have hsz : w.heap.size < (w.alloc (.cells #[.int .i64 p, .int .i64 i0, .int .i64 i1, .slice ga gn gc, .slice oa on oc] 39)).heap.size := by simp
  have hg1 := (hg.below hb0 (Nat.le_refl _)).up hb0.size
  have ho1 := (ho.below hb0 (Nat.le_refl _)).up hb0.size
  have hgl := Lib.hid hg.1
  have hol := Lib.hid ho.1
  have hml := Lib.hid (gts_length gn gs hg.1)
  unfold arithV
  cases hc : isArithF p i0 i1 gs os
  · go_enter Try.func42, Try.ntmps42
    go_wp2_with (go_at_call 23; refine (impl_IsArith_any _ _ _ _ _ _ _ _ _ _ _ _ hg1 ho1).mono ?_; rintro e w1 ⟨rfl, hb1⟩; rw [hc])
    go_ret2
    exact ⟨by simp [prodF, hc], hb0.trans (hb1.mono hb0.size)⟩
  obtain ⟨r0, r1, r2, r3, r4, r5, r6⟩ := isArith_facts hgl.out hol.out hc
  have q0 := inB_iff.1 r1
  have q1 := inB_iff.1 r2
  obtain ⟨i0, rfl⟩ := Int.eq_ofNat_of_zero_le q0.1
  obtain ⟨i1, rfl⟩ := Int.eq_ofNat_of_zero_le q1.1
  have HOK : Hid (okA p (gts gs) ((i0 + i1 : Nat) : Int) = true) := by show _ = _; rw [Int.natCast_add]; exact r5
  have HIN : Hid (allIn 0 (((i0 + i1 + gn : Nat) : Int) - 1) os = true) := by show _ = _; rw [Int.natCast_add, Int.natCast_add]; exact r6
  have HE : Hid (prodF p (i0 : Int) (i1 : Int) gs os = (mostL (pickL (depL (gts gs) (List.replicate (i0 + i1) 0)) os), true)) := by show _ = _; simp [prodF, hc]
  have HR1 := Lib.hid r1
  have HR2 := Lib.hid r2
  clear r5 r6 r1 r2
  obtain ⟨i0', hi, hz0, hz1, hz2⟩ := info_parts int_info
  go_enter Try.func42, Try.ntmps42
  go_wp2_with fail
  generalize (w.alloc (.cells #[.int .i64 p, .int .i64 (i0 : Int), .int .i64 (i1 : Int), .slice ga gn gc, .slice oa on oc] 39)) = w0 at *
  refine (impl_IsArith_any _ _ _ _ _ _ _ _ _ _ _ _ hg1 ho1).mono ?_
  rintro e w1 ⟨rfl, hb1⟩
  rw [hc]
  have hbw1 := hb0.trans (hb1.mono hb0.size)
  have hsz1 := Nat.lt_of_lt_of_le hsz hb1.size
  obtain ⟨c0, c1, c2, c3, c4⟩ := hbx.below hb1 hsz
  have hbx1 := Lib.hid (hbx.below hb1 hsz)
  go_wp2_with fail
  refine (arInp_any _ _ _ _ _ _ _ _ _ _ HR1.out HR2.out).mono ?_
  rintro e w2 ⟨rfl, hb2⟩
  have hbw2 := hbw1.trans (hb2.mono hbw1.size)
  have hsz2 := Nat.lt_of_lt_of_le hsz1 hb2.size
  have hbx2 := Lib.hid (hbx1.out.below hb2 hsz1)
  clear c0 c1 c2 c3 c4
  go_wp2_with (at_make; refine wpList_make_full _ rfl _ _ 23 rfl w2.heap.size 3 i0' (.int .i64 0) 1 Try.underlying23 hi hz0 hz1 _ _ _ _ (i0 + i1) rfl rfl (by omega) (by omega) (by rw [hz2]; omega) (by unfold maxLen; omega) (Nat.le_refl _) ?_; intro w3 hown3 hg3; obtain ⟨e0, e1, e2, e3, e4⟩ := hbx2.out.below ((Below.refl _ _).grown hg3 (Nat.le_refl _) (by simp)) hsz2)
  replace hown3 := made_ints (by omega) hown3
  have hb3 : Below w2.heap.size w2 w3 := (Below.refl _ _).grown hg3 (Nat.le_refl _) (by simp)
  clear hi hz0 hz1 hz2 hg3
  go_loopw [4, 20] (fun out i wr => ∃ (k : Nat) (co : Option Addr) (cap : Nat), k ≤ gn ∧ i = .int .i64 k ∧ out = .slice co (i0 + i1 + k) cap ∧ OwnI w2.heap.size wr co (i0 + i1 + k) cap (depL ((gts gs).take k) (List.replicate (i0 + i1) 0)) ∧ Hid (smallL k (depL ((gts gs).take k) (List.replicate (i0 + i1) 0))) ∧ Below w2.heap.size w2 wr) (fun _ i _ => gn - (intOf i).toNat)
  case atStart => exact ⟨0, _, _, Nat.zero_le _, rfl, rfl, by simpa [depL] using hown3, (by intro i x hx; simp [depL] at hx; rw [List.getElem?_replicate] at hx; split at hx <;> simp at hx; omega), hb3⟩
  case round =>
    obtain ⟨k, co, cap, hk, rfl, rfl, hout, hsm, hbel⟩ := hrel
    have hbelw := hbw2.trans (hbel.mono hbw2.size)
    by_cases hlt : k < gn
    · obtain ⟨b1, o1, kx, y, z, rfl, hbb, hgk, q0, q1, q2⟩ := hg.gate hlt
      have g0 : wr.cell? ⟨b1, o1 + k * 3, none⟩ = some (.int .i64 kx) := (hbelw.cell (by exact hbb)).trans q0
      have g1 : wr.cell? ⟨b1, o1 + k * 3 + 1, none⟩ = some (.int .i64 y) := (hbelw.cell (by exact hbb)).trans q1
      have g2 : wr.cell? ⟨b1, o1 + k * 3 + 2, none⟩ = some (.int .i64 z) := (hbelw.cell (by exact hbb)).trans q2
      have hgb := okA_at _ _ _ _ _ HOK.out hgk
      have hkx := agateB_kind hgb
      have HSTEP := Lib.hid (depL_step hgk (List.replicate (i0 + i1) 0))
      obtain ⟨V, hV⟩ : ∃ V, V = depL ((gts gs).take k) (List.replicate (i0 + i1) 0) := ⟨_, rfl⟩
      rw [← hV] at hout HSTEP hsm
      have hol2 := hout.1
      clear q0 q1 q2 hgk hV
      have hal : Below wr.heap.size wr (wr.alloc (.cells #[.int .i64 kx, .int .i64 y, .int .i64 z] 68)) := (Below.refl _ _).alloc (Nat.le_refl _) _
      have hbel2 := hbel.trans (hal.mono hbel.size)
      have hout2 := hout.below hal (Nat.le_refl _)
      have HBG := Lib.hid (heap_alloc_new wr (.cells #[.int .i64 kx, .int .i64 y, .int .i64 z] 68))
      by_cases k0 : kx = 0
      · subst k0
        obtain ⟨⟨ya, yb⟩, za, zb⟩ := agate01 hgb (by simp)
        obtain ⟨a, rfl⟩ := Int.eq_ofNat_of_zero_le ya
        obtain ⟨b, rfl⟩ := Int.eq_ofNat_of_zero_le za
        obtain ⟨u, hu⟩ := get_at (i := a) hol2 (by omega)
        obtain ⟨v, hv⟩ := get_at (i := b) hol2 (by omega)
        have su := hsm.out _ _ hu
        have sv := hsm.out _ _ hv
        obtain ⟨M, hM⟩ : ∃ M, M = mx u v := ⟨_, rfl⟩
        have sM := mx_le su sv
        have HR : Hid (dstep V (0, (a : Int), (b : Int)) = mx u v) := by show _ = _; simp [dstep, atI_get hu, atI_get hv]
        rw [← hM] at HR sM
        have HR2 : Hid (0 ≤ M ∧ M ≤ (k : Int) + 1) := by show _ ∧ _; omega
        obtain ⟨g, rfl, _, _⟩ := hout.blk (by omega)
        have y0 := hout2.cell hu
        have y1 := hout2.cell hv
        clear hu hv hgb hkx ya za hol2 hal hout
        by_cases huv : u < v
        · obtain rfl : M = v := by rw [hM, mx, if_pos huv]
          clear hM
          go_wp2_with fail
          generalize wr.alloc (.cells #[.int .i64 0, .int .i64 (a : Int), .int .i64 (b : Int)] 68) = W2 at *
          have e0 : W2.cell? ⟨wr.heap.size, 0, none⟩ = some (.int .i64 0) := by rw [cell_of_row W2 _ 0 _ _ (0, 0) HBG.out]; rfl
          have e1 : W2.cell? ⟨wr.heap.size, 1, none⟩ = some (.int .i64 (a : Int)) := by rw [cell_of_row W2 _ 1 _ _ (0, 0) HBG.out]; rfl
          have e2 : W2.cell? ⟨wr.heap.size, 2, none⟩ = some (.int .i64 (b : Int)) := by rw [cell_of_row W2 _ 2 _ _ (0, 0) HBG.out]; rfl
          go_quiet ((go_at_call 84; exact quiet_left (bit_any _ _)))
          have hout3 := hout2.drewN nq
          have hbel3 := bdrewN hbel2 nq
          go_wp2_with (at_builtin; refine wpList_append_i rfl _ _ rfl w2.heap.size _ _ _ _ _ rfl (by first | rfl | (simp; rfl)) hout3 (by omega) hbel3.size ?_; intro ao' cap' w4 hown4 hg4)
          have hbr4 := below_append hbel3 hout3.2.2 hg4 hbel3.size
          go_roundw
          case rel => exact ⟨k + 1, ao', cap', by omega, by go_num, by rw [Nat.add_assoc], by rw [← Nat.add_assoc, HSTEP.out, HR.out]; exact hown4, by rw [HSTEP.out, HR.out, Int.natCast_succ]; exact smallL_snoc hsm.out HR2.out, hbr4⟩
          case measure => simp [intOf] <;> omega
        · obtain rfl : M = u := by rw [hM, mx, if_neg huv]
          clear hM
          have huv' : decide (M < v) = false := by simp; omega
          go_wp2_with fail
          generalize wr.alloc (.cells #[.int .i64 0, .int .i64 (a : Int), .int .i64 (b : Int)] 68) = W2 at *
          have e0 : W2.cell? ⟨wr.heap.size, 0, none⟩ = some (.int .i64 0) := by rw [cell_of_row W2 _ 0 _ _ (0, 0) HBG.out]; rfl
          have e1 : W2.cell? ⟨wr.heap.size, 1, none⟩ = some (.int .i64 (a : Int)) := by rw [cell_of_row W2 _ 1 _ _ (0, 0) HBG.out]; rfl
          have e2 : W2.cell? ⟨wr.heap.size, 2, none⟩ = some (.int .i64 (b : Int)) := by rw [cell_of_row W2 _ 2 _ _ (0, 0) HBG.out]; rfl
          go_quiet ((go_at_call 84; exact quiet_left (bit_any _ _)))
          have hout3 := hout2.drewN nq
          have hbel3 := bdrewN hbel2 nq
          go_wp2_with (at_builtin; refine wpList_append_i rfl _ _ rfl w2.heap.size _ _ _ _ _ rfl (by first | rfl | (simp; rfl)) hout3 (by omega) hbel3.size ?_; intro ao' cap' w4 hown4 hg4)
          have hbr4 := below_append hbel3 hout3.2.2 hg4 hbel3.size
          go_roundw
          case rel => exact ⟨k + 1, ao', cap', by omega, by go_num, by rw [Nat.add_assoc], by rw [← Nat.add_assoc, HSTEP.out, HR.out]; exact hown4, by rw [HSTEP.out, HR.out, Int.natCast_succ]; exact smallL_snoc hsm.out HR2.out, hbr4⟩
          case measure => simp [intOf] <;> omega
      by_cases k1 : kx = 1
      · subst k1
        obtain ⟨⟨ya, yb⟩, za, zb⟩ := agate01 hgb (by simp)
        obtain ⟨a, rfl⟩ := Int.eq_ofNat_of_zero_le ya
        obtain ⟨b, rfl⟩ := Int.eq_ofNat_of_zero_le za
        obtain ⟨u, hu⟩ := get_at (i := a) hol2 (by omega)
        obtain ⟨v, hv⟩ := get_at (i := b) hol2 (by omega)
        have su := hsm.out _ _ hu
        have sv := hsm.out _ _ hv
        obtain ⟨M, hM⟩ : ∃ M, M = mx u v := ⟨_, rfl⟩
        have sM := mx_le su sv
        have HR : Hid (dstep V (1, (a : Int), (b : Int)) = mx u v + 1) := by show _ = _; simp [dstep, atI_get hu, atI_get hv]
        rw [← hM] at HR sM
        have HR2 : Hid (0 ≤ M + 1 ∧ M + 1 ≤ (k : Int) + 1) := by show _ ∧ _; omega
        obtain ⟨g, rfl, _, _⟩ := hout.blk (by omega)
        have y0 := hout2.cell hu
        have y1 := hout2.cell hv
        clear hu hv hgb hkx ya za hol2 hal hout
        by_cases huv : u < v
        · obtain rfl : M = v := by rw [hM, mx, if_pos huv]
          clear hM
          go_wp2_with fail
          generalize wr.alloc (.cells #[.int .i64 1, .int .i64 (a : Int), .int .i64 (b : Int)] 68) = W2 at *
          have e0 : W2.cell? ⟨wr.heap.size, 0, none⟩ = some (.int .i64 1) := by rw [cell_of_row W2 _ 0 _ _ (0, 0) HBG.out]; rfl
          have e1 : W2.cell? ⟨wr.heap.size, 1, none⟩ = some (.int .i64 (a : Int)) := by rw [cell_of_row W2 _ 1 _ _ (0, 0) HBG.out]; rfl
          have e2 : W2.cell? ⟨wr.heap.size, 2, none⟩ = some (.int .i64 (b : Int)) := by rw [cell_of_row W2 _ 2 _ _ (0, 0) HBG.out]; rfl
          go_quiet ((go_at_call 84; exact quiet_left (bit_any _ _)))
          have hout3 := hout2.drewN nq
          have hbel3 := bdrewN hbel2 nq
          go_wp2_with (at_builtin; refine wpList_append_i rfl _ _ rfl w2.heap.size _ _ _ _ _ rfl (by first | rfl | (simp; rfl)) hout3 (by omega) hbel3.size ?_; intro ao' cap' w4 hown4 hg4)
          have hbr4 := below_append hbel3 hout3.2.2 hg4 hbel3.size
          go_roundw
          case rel => exact ⟨k + 1, ao', cap', by omega, by go_num, by rw [Nat.add_assoc], by rw [← Nat.add_assoc, HSTEP.out, HR.out]; exact hown4, by rw [HSTEP.out, HR.out, Int.natCast_succ]; exact smallL_snoc hsm.out HR2.out, hbr4⟩
          case measure => simp [intOf] <;> omega
        · obtain rfl : M = u := by rw [hM, mx, if_neg huv]
          clear hM
          have huv' : decide (M < v) = false := by simp; omega
          go_wp2_with fail
          generalize wr.alloc (.cells #[.int .i64 1, .int .i64 (a : Int), .int .i64 (b : Int)] 68) = W2 at *
          have e0 : W2.cell? ⟨wr.heap.size, 0, none⟩ = some (.int .i64 1) := by rw [cell_of_row W2 _ 0 _ _ (0, 0) HBG.out]; rfl
          have e1 : W2.cell? ⟨wr.heap.size, 1, none⟩ = some (.int .i64 (a : Int)) := by rw [cell_of_row W2 _ 1 _ _ (0, 0) HBG.out]; rfl
          have e2 : W2.cell? ⟨wr.heap.size, 2, none⟩ = some (.int .i64 (b : Int)) := by rw [cell_of_row W2 _ 2 _ _ (0, 0) HBG.out]; rfl
          go_quiet ((go_at_call 84; exact quiet_left (bit_any _ _)))
          have hout3 := hout2.drewN nq
          have hbel3 := bdrewN hbel2 nq
          go_wp2_with (at_builtin; refine wpList_append_i rfl _ _ rfl w2.heap.size _ _ _ _ _ rfl (by first | rfl | (simp; rfl)) hout3 (by omega) hbel3.size ?_; intro ao' cap' w4 hown4 hg4)
          have hbr4 := below_append hbel3 hout3.2.2 hg4 hbel3.size
          go_roundw
          case rel => exact ⟨k + 1, ao', cap', by omega, by go_num, by rw [Nat.add_assoc], by rw [← Nat.add_assoc, HSTEP.out, HR.out]; exact hown4, by rw [HSTEP.out, HR.out, Int.natCast_succ]; exact smallL_snoc hsm.out HR2.out, hbr4⟩
          case measure => simp [intOf] <;> omega
      by_cases k2 : kx = 2
      · subst k2
        obtain ⟨ya, yb⟩ := agate2 hgb
        obtain ⟨a, rfl⟩ := Int.eq_ofNat_of_zero_le ya
        obtain ⟨u, hu⟩ := get_at (i := a) hol2 (by omega)
        have su := hsm.out _ _ hu
        have HR : Hid (dstep V (2, (a : Int), z) = u) := by show _ = _; simp [dstep, atI_get hu]
        have HR2 : Hid (0 ≤ u ∧ u ≤ (k : Int) + 1) := by show _ ∧ _; omega
        obtain ⟨g, rfl, _, _⟩ := hout.blk (by omega)
        have y0 := hout2.cell hu
        clear hu hgb hkx ya hol2 hal hout
        go_wp2_with (at_builtin; refine wpList_append_i rfl _ _ rfl w2.heap.size _ _ _ _ _ rfl (by first | rfl | (simp; rfl)) hout2 (by omega) hbel2.size ?_; intro ao' cap' w4 hown4 hg4)
        have hbr4 := below_append hbel2 hout2.2.2 hg4 hbel2.size
        go_roundw
        case rel => exact ⟨k + 1, ao', cap', by omega, by go_num, by rw [Nat.add_assoc], by rw [← Nat.add_assoc, HSTEP.out, HR.out]; exact hown4, by rw [HSTEP.out, HR.out, Int.natCast_succ]; exact smallL_snoc hsm.out HR2.out, hbr4⟩
        case measure => simp [intOf] <;> omega
      · obtain rfl : kx = 3 := by simp at hkx; omega
        have HR : Hid (dstep V (3, y, z) = 0) := by show _ = _; simp [dstep]
        have HR2 : Hid (0 ≤ (0 : Int) ∧ (0 : Int) ≤ (k : Int) + 1) := by show _ ∧ _; omega
        clear hgb hkx hol2 hal hout
        go_wp2_with (at_builtin; refine wpList_append_i rfl _ _ rfl w2.heap.size _ _ _ _ _ rfl (by first | rfl | (simp; rfl)) hout2 (by omega) hbel2.size ?_; intro ao' cap' w4 hown4 hg4)
        have hbr4 := below_append hbel2 hout2.2.2 hg4 hbel2.size
        go_roundw
        case rel => exact ⟨k + 1, ao', cap', by omega, by go_num, by rw [Nat.add_assoc], by rw [← Nat.add_assoc, HSTEP.out, HR.out]; exact hown4, by rw [HSTEP.out, HR.out, Int.natCast_succ]; exact smallL_snoc hsm.out HR2.out, hbr4⟩
        case measure => simp [intOf] <;> omega
    · obtain rfl : k = gn := by omega
      rw [List.take_of_length_le (by rw [hml.out]; exact Nat.le_refl _)] at hout
      obtain ⟨V, hV⟩ : ∃ V, V = depL (gts gs) (List.replicate (i0 + i1) 0) := ⟨_, rfl⟩
      rw [← hV] at hout HE
      clear hV hsm
      obtain ⟨e0, e1, e2, e3, e4⟩ := hbx2.out.below hbel hsz2
      have hoW := ho.below hbelw (Nat.le_refl _)
      have hVI := hout.ints
      have HIN2 := Lib.hid (allIn_iff.1 HIN.out)
      go_wp2_with fail
      go_loop [8, 60] (fun m i => ∃ j : Nat, j ≤ on ∧ i = .int .i64 j ∧ m = .int .i64 (mostL (pickL V (os.take j)))) (fun _ i => on - (intOf i).toNat)
      case atStart => exact ⟨0, Nat.zero_le _, rfl, rfl⟩
      case round =>
        obtain ⟨j, j1, rfl, rfl⟩ := hrel
        by_cases hj : j < on
        · obtain ⟨b2, o2, t, rfl, hb2', ht, q2⟩ := hoW.at hj
          have htt := HIN2.out t (List.mem_of_getElem? ht)
          obtain ⟨t, rfl⟩ := Int.eq_ofNat_of_zero_le htt.1
          obtain ⟨b3, o3, x, rfl, hb3', hx, q3⟩ := hVI.at (k := t) (by omega)
          have htl : (t : Int) < ((i0 + i1 + k : Nat) : Int) := by omega
          have HM : Hid (mostL (pickL V (os.take (j + 1))) = mx (mostL (pickL V (os.take j))) x) := by
            show _ = _
            rw [pickL, pickL, List.take_add_one, ht]
            simp [mostL, List.foldl_append, atI_get hx]
          obtain ⟨m, hm⟩ : ∃ m, m = mostL (pickL V (os.take j)) := ⟨_, rfl⟩
          rw [← hm] at HM ⊢
          clear ht hx hm
          by_cases hux : m < x
          · go_wp2_with fail
            go_round
            case rel => exact ⟨j + 1, by omega, by go_num, by rw [HM.out, mx, if_pos hux]⟩
            case measure => simp [intOf] <;> omega
          · have hux' : decide (m < x) = false := by simp; omega
            go_wp2_with fail
            go_round
            case rel => exact ⟨j + 1, by omega, by go_num, by rw [HM.out, mx, if_neg hux]⟩
            case measure => simp [intOf] <;> omega
        · obtain rfl : j = on := by omega
          have HT : os.take j = os := List.take_of_length_le (by rw [hol.out]; exact Nat.le_refl _)
          rw [HT]
          clear HT
          go_wp2_with fail
          go_ret2
          exact ⟨by rw [HE.out] <;> rfl, hbelw⟩
end Go.Proofs.Ytbdccgodamkljaa
