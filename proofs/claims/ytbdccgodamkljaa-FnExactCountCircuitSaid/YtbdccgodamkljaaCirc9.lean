/-
  Circuits: the answer of RunWith.
-/
import Derived.Test.YtbdccgodamkljaaCirc8
namespace Go.Proofs.Ytbdccgodamkljaa
open Go.RowKit
set_option linter.unusedVariables false
set_option linter.unusedSimpArgs false

theorem wrap_pow16m (k : Nat) (h : k ≤ 16) : wrap64 (wrap64 (2 ^ k) - 1) = 2 ^ k - 1 := by
  have hp := pow16 k h
  rw [wrap_pow16 k h]
  generalize (2 : Int) ^ k = p at *
  exact IntWalk.wrap64_in _ ⟨by omega, by omega⟩
def runF (i0 i1 : Int) (gs os : List Int) (a b : Int) : Int × Bool :=
  if (isCircF i0 i1 gs os && (decide (os.length ≤ 16) && (btWordB a i0 && btWordB b i1))) = true then (numL (pickL (valL (gts gs) (btOfL a.toNat i0.toNat ++ btOfL b.toNat i1.toNat)) os), true) else (0, false)
theorem btOfL_bits (n k : Nat) : allIn 0 1 (btOfL n k) = true := by
  induction k generalizing n with
  | zero => simp [btOfL, allIn]
  | succ k ih =>
    rw [allIn_iff]
    intro x hx
    simp only [btOfL, List.mem_cons] at hx
    rcases hx with rfl | hx
    · omega
    · exact allIn_iff.1 (ih (n / 2)) x hx
theorem all01_append {xs ys : List Int} (h : allIn 0 1 xs = true) (k : allIn 0 1 ys = true) : allIn 0 1 (xs ++ ys) = true := by
  rw [allIn_iff] at h k ⊢
  intro z hz
  rcases List.mem_append.1 hz with hz | hz
  · exact h z hz
  · exact k z hz
theorem gval01 {V : List Int} {own : Int} {g : Int × Int × Int} (hv : allIn 0 1 V = true) (hg : gateB own g = true) (hl : (V.length : Int) = own) : 0 ≤ gval V g ∧ gval V g ≤ 1 := by
  obtain ⟨k, a, b⟩ := g
  have hat : ∀ i : Int, 0 ≤ i → i < own → 0 ≤ atI V i ∧ atI V i ≤ 1 := fun i h0 h1 => by
    obtain ⟨j, rfl⟩ := Int.eq_ofNat_of_zero_le h0
    obtain ⟨x, hx⟩ := get_at (l := V) (i := j) rfl (by omega)
    rw [atI_get hx]
    exact all01_get hv hx
  have hk := gateB_kind hg
  simp at hk
  rcases (show k = 0 ∨ k = 1 ∨ k = 2 ∨ k = 3 by omega) with rfl | rfl | rfl | rfl
  · obtain ⟨p, q⟩ := gate01 hg (by simp)
    simp only [gval]
    exact xor01 (hat a p.1 p.2) (hat b q.1 q.2)
  · obtain ⟨p, q⟩ := gate01 hg (by simp)
    simp [gval]
    exact and01 (hat a p.1 p.2) (hat b q.1 q.2)
  · obtain ⟨p, q⟩ := gate2 hg
    have := hat a p.1 p.2
    simp [gval]
    omega
  · simp [gval]
theorem valL_bits (l : List (Int × Int × Int)) : ∀ (v : List Int), okG l v.length = true → allIn 0 1 v = true → allIn 0 1 (valL l v) = true := by
  induction l with
  | nil => intro v _ hb; exact hb
  | cons g l ih =>
    intro v h hb
    simp only [okG, Bool.and_eq_true] at h
    rw [show valL (g :: l) v = valL l (v ++ [gval v g]) from rfl]
    exact ih _ (by rw [show (((v ++ [gval v g]).length : Nat) : Int) = (v.length : Int) + 1 from by simp]; exact h.2) (all01_snoc hb (gval01 hb h.1 rfl))
theorem pickL_bits {xs os : List Int} (hx : allIn 0 1 xs = true) (ho : allIn 0 ((xs.length : Int) - 1) os = true) : allIn 0 1 (pickL xs os) = true := by
  rw [allIn_iff] at ho ⊢
  intro y hy
  simp only [pickL, List.mem_map] at hy
  obtain ⟨i, hi, rfl⟩ := hy
  have := ho i hi
  obtain ⟨j, rfl⟩ := Int.eq_ofNat_of_zero_le this.1
  obtain ⟨x, hxx⟩ := get_at (l := xs) (i := j) rfl (by omega)
  rw [atI_get hxx]
  exact all01_get hx hxx
set_option maxRecDepth 20000 in
set_option maxHeartbeats 4000000 in
theorem spec_RunWith_any (w : World) (i0 i1 : Int) (ga oa : Option Addr) (gn gc on oc : Nat) (gs os : List Int) (a b : Int) (hg : Flat 3 w w.heap.size ga gn gs) (ho : Ints w w.heap.size oa on os) :
    Calls Try.prog 46 #[circV i0 i1 ga gn gc oa on oc, .int .i64 a, .int .i64 b] w (RetNB (runF i0 i1 gs os a b) w) := by
  have hb0 : Below w.heap.size w (w.alloc (.cells #[.int .i64 i0, .int .i64 i1, .slice ga gn gc, .slice oa on oc] 30)) := (Below.refl _ _).alloc (Nat.le_refl _) _
  have hbx := boxC_new w i0 i1 ga gn gc oa on oc 30
  have hsz : w.heap.size < (w.alloc (.cells #[.int .i64 i0, .int .i64 i1, .slice ga gn gc, .slice oa on oc] 30)).heap.size := by simp
  have hg1 := (hg.below hb0 (Nat.le_refl _)).up hb0.size
  have ho1 := (ho.below hb0 (Nat.le_refl _)).up hb0.size
  have hgl := Lib.hid hg.1
  have hol := Lib.hid ho.1
  have hml := Lib.hid (gts_length gn gs hg.1)
  unfold circV
  cases hc : isCircF i0 i1 gs os
  · go_enter Try.func46, Try.ntmps46
    go_wp2_with (go_at_call 54; refine (ciGood_any _ _ _ _ _ _ _ _ _ _ _ hg1 ho1).mono ?_; rintro e w1 ⟨rfl, hb1⟩; rw [hc])
    go_ret2
    exact ⟨by simp [runF, hc], hb0.trans (hb1.mono hb0.size)⟩
  obtain ⟨r0, r1, r2, r3, r4, r5⟩ := isCirc_facts hgl.out hol.out hc
  have q0 := inB_iff.1 r0
  have q1 := inB_iff.1 r1
  obtain ⟨i0, rfl⟩ := Int.eq_ofNat_of_zero_le q0.1
  obtain ⟨i1, rfl⟩ := Int.eq_ofNat_of_zero_le q1.1
  have HC := Lib.hid hc
  have HOK : Hid (okG (gts gs) ((i0 + i1 : Nat) : Int) = true) := by show _ = _; rw [Int.natCast_add]; exact r4
  have HIN : Hid (allIn 0 (((i0 + i1 + gn : Nat) : Int) - 1) os = true) := by show _ = _; rw [Int.natCast_add, Int.natCast_add]; exact r5
  clear r0 r1 r4 r5
  go_enter Try.func46, Try.ntmps46
  go_wp2_with fail
  generalize (w.alloc (.cells #[.int .i64 (i0 : Int), .int .i64 (i1 : Int), .slice ga gn gc, .slice oa on oc] 30)) = w0 at *
  refine (ciGood_any _ _ _ _ _ _ _ _ _ _ _ hg1 ho1).mono ?_
  rintro e w1 ⟨rfl, hb1⟩
  rw [hc]
  have hbw1 := hb0.trans (hb1.mono hb0.size)
  have hbx1 := hbx.below hb1 hsz
  have hsz1 := Nat.lt_of_lt_of_le hsz hb1.size
  obtain ⟨c0, c1, c2, c3⟩ := hbx1
  have hbx1 := hbx.below hb1 hsz
  have HBX := Lib.hid hbx1
  clear hbx1
  by_cases h16 : on ≤ 16
  rotate_left
  · have h16' : ¬ os.length ≤ 16 := by rw [hol.out]; exact h16
    go_wp2_with fail
    go_ret2
    exact ⟨by simp [runF, h16'], hbw1⟩
  have H16 : Hid (os.length ≤ 16) := by show _ ≤ _; rw [hol.out]; exact h16
  cases hwa : btWordB a (i0 : Int)
  · go_wp2_with (go_at_call 77; refine (btWord_any _ _ _).mono ?_; rintro e w' ⟨rfl, rfl⟩; rw [hwa])
    go_ret2
    exact ⟨by simp [runF, hwa], hbw1⟩
  cases hwb : btWordB b (i1 : Int)
  · go_wp2_with (go_at_call 77; refine (btWord_any _ _ _).mono ?_; rintro e w' ⟨rfl, rfl⟩; first | rw [hwa] | rw [hwb])
    go_ret2
    exact ⟨by simp [runF, hwb], hbw1⟩
  have FA := Lib.hid hwa
  have FB := Lib.hid hwb
  have za : (0 ≤ a ∧ a ≤ 2 ^ i0 - 1) ∧ i0 ≤ 16 := by have h := hwa; simp only [btWordB, Bool.and_eq_true, inB_iff] at h; obtain ⟨⟨_, h1⟩, h2, h3⟩ := h; simp only [Int.toNat_natCast] at h3; exact ⟨⟨h2, h3⟩, by omega⟩
  have zb : (0 ≤ b ∧ b ≤ 2 ^ i1 - 1) ∧ i1 ≤ 16 := by have h := hwb; simp only [btWordB, Bool.and_eq_true, inB_iff] at h; obtain ⟨⟨_, h1⟩, h2, h3⟩ := h; simp only [Int.toNat_natCast] at h3; exact ⟨⟨h2, h3⟩, by omega⟩
  have pw0 := pow16 i0 za.2
  have pw1 := pow16 i1 zb.2
  have ha16 := za.2
  have hb16 := zb.2
  replace za := za.1
  replace zb := zb.1
  have ha0 := za.1
  have hb00 := zb.1
  obtain ⟨x, rfl⟩ := Int.eq_ofNat_of_zero_le ha0
  obtain ⟨y, rfl⟩ := Int.eq_ofNat_of_zero_le hb00
  have hx6 : x ≤ 65536 := by omega
  have hy6 : y ≤ 65536 := by omega
  have HE : Hid (runF (i0 : Int) (i1 : Int) gs os (x : Int) (y : Int) = (numL (pickL (valL (gts gs) (btOfL x i0 ++ btOfL y i1)) os), true)) := by
    show _ = _
    unfold runF
    rw [if_pos]
    · rfl
    · simp [HC.out, H16.out, FA.out, FB.out]
  have HBT := Lib.hid (all01_append (btOfL_bits x i0) (btOfL_bits y i1))
  have HVB : Hid (allIn 0 1 (pickL (valL (gts gs) (btOfL x i0 ++ btOfL y i1)) os) = true) := by
    show _ = _
    refine pickL_bits (valL_bits _ _ ?_ HBT.out) ?_
    · rw [List.length_append, btOfL_length, btOfL_length]; exact HOK.out
    · rw [valL_length, List.length_append, btOfL_length, btOfL_length, hml.out]; exact HIN.out
  have HG := Lib.hid (show ∀ W, Below w1.heap.size w1 W → Flat 3 W W.heap.size ga gn gs from fun W h => (hg.below (hbw1.trans (h.mono hbw1.size)) (Nat.le_refl _)).up (hbw1.trans (h.mono hbw1.size)).size)
  have HO := Lib.hid (show ∀ W, Below w1.heap.size w1 W → Ints W W.heap.size oa on os from fun W h => (ho.below (hbw1.trans (h.mono hbw1.size)) (Nat.le_refl _)).up (hbw1.trans (h.mono hbw1.size)).size)
  go_wp2_with (go_at_call 77; refine (btWord_any _ _ _).mono ?_; rintro e w' ⟨rfl, rfl⟩; first | rw [hwa] | rw [hwb])
  have hS : ∀ W, Below w1.heap.size w1 W → W.cell? ⟨w.heap.size, 0, none⟩ = some (.int .i64 (i0 : Int)) ∧ W.cell? ⟨w.heap.size, 1, none⟩ = some (.int .i64 (i1 : Int)) ∧ W.cell? ⟨w.heap.size, 2, none⟩ = some (.slice ga gn gc) ∧ W.cell? ⟨w.heap.size, 3, none⟩ = some (.slice oa on oc) ∧ Below w1.heap.size w1 W := fun W h => by
    have hc := HBX.out.below h hsz1
    exact ⟨hc.1, hc.2.1, hc.2.2.1, hc.2.2.2, h⟩
  have hS2 : ∀ W W', (W.cell? ⟨w.heap.size, 0, none⟩ = some (.int .i64 (i0 : Int)) ∧ W.cell? ⟨w.heap.size, 1, none⟩ = some (.int .i64 (i1 : Int)) ∧ W.cell? ⟨w.heap.size, 2, none⟩ = some (.slice ga gn gc) ∧ W.cell? ⟨w.heap.size, 3, none⟩ = some (.slice oa on oc) ∧ Below w1.heap.size w1 W) → Below W.heap.size W W' → _ := fun W W' h hb => hS W' (h.2.2.2.2.trans (hb.mono h.2.2.2.2.size))
  have HS := Lib.hid hS
  have HS2 := Lib.hid hS2
  clear hS hS2
  go_region_held3 (fun w' => w'.cell? ⟨w.heap.size, 0, none⟩ = some (.int .i64 (i0 : Int)) ∧ w'.cell? ⟨w.heap.size, 1, none⟩ = some (.int .i64 (i1 : Int)) ∧ w'.cell? ⟨w.heap.size, 2, none⟩ = some (.slice ga gn gc) ∧ w'.cell? ⟨w.heap.size, 3, none⟩ = some (.slice oa on oc) ∧ Below w1.heap.size w1 w') (first | exact HS.out _ (bdrewN (Below.refl _ _) 1) | exact HS2.out _ _ (by assumption) hb6 | exact HS2.out _ _ (by assumption) hb2 | exact HS2.out _ _ (by assumption) hb3 | exact HS2.out _ _ (by assumption) hb4 | exact HS2.out _ _ (by assumption) hb5 | assumption)
    (first | (go_at_call 95; (with_reducible show Calls _ _ #[Value.int IntKind.i64 (x : Int), _] _ _); refine (btOf_any _ _ _ (by omega) (by omega)).mono ?_; rintro e w2 ⟨a2, n2, c2, rfl, ho2, hb2⟩; have hl2 := ho2.1; rw [btOfL_length] at hl2; subst hl2) | (go_at_call 95; (with_reducible show Calls _ _ #[Value.int IntKind.i64 (y : Int), _] _ _); refine (btOf_any _ _ _ (by omega) (by omega)).mono ?_; rintro e w6 ⟨a6, n6, c6, rfl, ho6, hb6⟩; have hl6 := ho6.1; rw [btOfL_length] at hl6; subst hl6) | (go_at_call 89; have hq1 := ho2.ints.below hb6 (Nat.le_refl _); refine (ciJoin_any _ _ _ _ _ _ _ _ _ _ _ hq1 ho6.ints hb6.size (Nat.le_refl _) (by omega) (by omega)).mono ?_; rintro e w3 ⟨a3, n3, c3, rfl, ho3, hb3⟩; obtain rfl : n3 = i0 + i1 := by have := ho3.1; rw [List.length_append, btOfL_length, btOfL_length] at this; exact this.symm) | (go_at_call 89; have hq2 := ho6.ints.below hb2 (Nat.le_refl _); refine (ciJoin_any _ _ _ _ _ _ _ _ _ _ _ ho2.ints hq2 (Nat.le_refl _) hb2.size (by omega) (by omega)).mono ?_; rintro e w3 ⟨a3, n3, c3, rfl, ho3, hb3⟩; obtain rfl : n3 = i0 + i1 := by have := ho3.1; rw [List.length_append, btOfL_length, btOfL_length] at this; exact this.symm) | (go_at_call 94; refine (ciOuts_any _ _ _ _ _ _ _ _ _ _ _ _ _ _ _ (HG.out _ (And.right (And.right (And.right (And.right (by assumption)))))) (HO.out _ (And.right (And.right (And.right (And.right (by assumption)))))) ho3.ints (by omega) (by omega) (by omega) HOK.out HBT.out HIN.out).mono ?_; rintro e w5 ⟨a5, n5, c5, rfl, ho5, hb5⟩; have hl5 := ho5.1; rw [pickL, List.length_map, hol.out] at hl5; subst hl5) | (go_at_call 93; refine (btNum_any _ _ _ _ _ _ ho5.ints (by omega) HVB.out).mono ?_; rintro e w' ⟨rfl, rfl⟩))
  all_goals
    rename_i hH
    have hbe := hbw1.trans (hH.2.2.2.2.mono hbw1.size)
    go_wp2_with fail
    go_ret2
    exact ⟨by rw [HE.out] <;> rfl, hbe⟩
set_option maxRecDepth 20000 in
set_option maxHeartbeats 4000000 in
theorem impl_RunWith_any (w : World) (i0 i1 : Int) (ga oa : Option Addr) (gn gc on oc : Nat) (gs os : List Int) (a b : Int) (hg : Flat 3 w w.heap.size ga gn gs) (ho : Ints w w.heap.size oa on os) :
    Calls Try.prog 47 #[circV i0 i1 ga gn gc oa on oc, .int .i64 a, .int .i64 b] w (RetNB (runF i0 i1 gs os a b) w) := by
  have hb0 : Below w.heap.size w (w.alloc (.cells #[.int .i64 i0, .int .i64 i1, .slice ga gn gc, .slice oa on oc] 30)) := (Below.refl _ _).alloc (Nat.le_refl _) _
  have hbx := boxC_new w i0 i1 ga gn gc oa on oc 30
  have hsz : w.heap.size < (w.alloc (.cells #[.int .i64 i0, .int .i64 i1, .slice ga gn gc, .slice oa on oc] 30)).heap.size := by simp
  have hg1 := (hg.below hb0 (Nat.le_refl _)).up hb0.size
  have ho1 := (ho.below hb0 (Nat.le_refl _)).up hb0.size
  have hgl := Lib.hid hg.1
  have hol := Lib.hid ho.1
  have hml := Lib.hid (gts_length gn gs hg.1)
  unfold circV
  cases hc : isCircF i0 i1 gs os
  · go_enter Try.func47, Try.ntmps47
    go_wp2_with (go_at_call 18; refine (impl_IsCircuit_any _ _ _ _ _ _ _ _ _ _ _ hg1 ho1).mono ?_; rintro e w1 ⟨rfl, hb1⟩; rw [hc])
    go_ret2
    exact ⟨by simp [runF, hc], hb0.trans (hb1.mono hb0.size)⟩
  obtain ⟨r0, r1, r2, r3, r4, r5⟩ := isCirc_facts hgl.out hol.out hc
  have q0 := inB_iff.1 r0
  have q1 := inB_iff.1 r1
  obtain ⟨i0, rfl⟩ := Int.eq_ofNat_of_zero_le q0.1
  obtain ⟨i1, rfl⟩ := Int.eq_ofNat_of_zero_le q1.1
  have HC := Lib.hid hc
  have HOK : Hid (okG (gts gs) ((i0 + i1 : Nat) : Int) = true) := by show _ = _; rw [Int.natCast_add]; exact r4
  have HIN : Hid (allIn 0 (((i0 + i1 + gn : Nat) : Int) - 1) os = true) := by show _ = _; rw [Int.natCast_add, Int.natCast_add]; exact r5
  clear r0 r1 r4 r5
  go_enter Try.func47, Try.ntmps47
  go_wp2_with fail
  generalize (w.alloc (.cells #[.int .i64 (i0 : Int), .int .i64 (i1 : Int), .slice ga gn gc, .slice oa on oc] 30)) = w0 at *
  refine (impl_IsCircuit_any _ _ _ _ _ _ _ _ _ _ _ hg1 ho1).mono ?_
  rintro e w1 ⟨rfl, hb1⟩
  rw [hc]
  have hbw1 := hb0.trans (hb1.mono hb0.size)
  have hbx1 := hbx.below hb1 hsz
  have hsz1 := Nat.lt_of_lt_of_le hsz hb1.size
  obtain ⟨c0, c1, c2, c3⟩ := hbx1
  have hbx1 := hbx.below hb1 hsz
  have HBX := Lib.hid hbx1
  clear hbx1
  by_cases h16 : on ≤ 16
  rotate_left
  · have h16' : ¬ os.length ≤ 16 := by rw [hol.out]; exact h16
    go_wp2_with fail
    go_ret2
    exact ⟨by simp [runF, h16'], hbw1⟩
  have H16 : Hid (os.length ≤ 16) := by show _ ≤ _; rw [hol.out]; exact h16
  by_cases ha16 : i0 ≤ 16
  rotate_left
  · have hw : btWordB a (i0 : Int) = false := by unfold btWordB; rw [inB_no.2 (by omega)]; rfl
    have ha16' : ¬ (i0 : Int) ≤ 16 := by omega
    go_wp2_with fail
    go_ret2
    exact ⟨by simp [runF, hw], hbw1⟩
  by_cases hb16 : i1 ≤ 16
  rotate_left
  · have hw : btWordB b (i1 : Int) = false := by unfold btWordB; rw [inB_no.2 (by omega)]; rfl
    have hb16' : ¬ (i1 : Int) ≤ 16 := by omega
    go_wp2_with fail
    go_ret2
    exact ⟨by simp [runF, hw], hbw1⟩
  have d16a : decide ((16 : Int) < (on : Int)) = false := by simp; omega
  have d16b : decide ((16 : Int) < (i0 : Int)) = false := by simp; omega
  have d16c : decide ((16 : Int) < (i1 : Int)) = false := by simp; omega
  have ha16' : (i0 : Int) ≤ 16 := by omega
  have hb16' : (i1 : Int) ≤ 16 := by omega
  have e0 : btWordB a (i0 : Int) = inB a 0 (2 ^ i0 - 1) := by unfold btWordB; rw [inB_iff.2 (by omega)]; simp
  have e1 : btWordB b (i1 : Int) = inB b 0 (2 ^ i1 - 1) := by unfold btWordB; rw [inB_iff.2 (by omega)]; simp
  have pw0 := pow16 i0 ha16
  have pw1 := pow16 i1 hb16
  have wp0 := wrap_pow16 i0 ha16
  have wp1 := wrap_pow16 i1 hb16
  have E0 := Lib.hid e0
  have E1 := Lib.hid e1
  clear e0 e1
  have W0 := Lib.hid (wrap_pow16m i0 ha16)
  have W1 := Lib.hid (wrap_pow16m i1 hb16)
  have PW0 := Lib.hid pw0
  have PW1 := Lib.hid pw1
  clear wp0 wp1 pw0 pw1
  cases hwa : inB a 0 (2 ^ i0 - 1)
  · have HWA := Lib.hid hwa
    clear hwa
    go_wp2_with (go_at_call 56; rw [W0.out]; refine (within_any _ _ _ _).mono ?_; rintro e w' ⟨rfl, rfl⟩; rw [HWA.out])
    go_ret2
    exact ⟨by simp [runF, E0.out, HWA.out], hbw1⟩
  cases hwb : inB b 0 (2 ^ i1 - 1)
  · have HWA := Lib.hid hwa
    have HWB := Lib.hid hwb
    clear hwa hwb
    go_wp2_with (go_at_call 56; first | (rw [W0.out]; refine (within_any _ _ _ _).mono ?_; rintro e w' ⟨rfl, rfl⟩; rw [HWA.out]) | (rw [W1.out]; refine (within_any _ _ _ _).mono ?_; rintro e w' ⟨rfl, rfl⟩; rw [HWB.out]))
    go_ret2
    exact ⟨by simp [runF, E1.out, HWB.out], hbw1⟩
  have HWA := Lib.hid hwa
  have HWB := Lib.hid hwb
  have za := inB_iff.1 hwa
  have zb := inB_iff.1 hwb
  have pw0 := PW0.out
  have pw1 := PW1.out
  have FA := Lib.hid (E0.out.trans hwa)
  have FB := Lib.hid (E1.out.trans hwb)
  have ha0 := za.1
  have hb00 := zb.1
  obtain ⟨x, rfl⟩ := Int.eq_ofNat_of_zero_le ha0
  obtain ⟨y, rfl⟩ := Int.eq_ofNat_of_zero_le hb00
  have hx6 : x ≤ 65536 := by omega
  have hy6 : y ≤ 65536 := by omega
  have HE : Hid (runF (i0 : Int) (i1 : Int) gs os (x : Int) (y : Int) = (numL (pickL (valL (gts gs) (btOfL x i0 ++ btOfL y i1)) os), true)) := by
    show _ = _
    unfold runF
    rw [if_pos]
    · rfl
    · simp [HC.out, H16.out, FA.out, FB.out]
  have HBT := Lib.hid (all01_append (btOfL_bits x i0) (btOfL_bits y i1))
  have HVB : Hid (allIn 0 1 (pickL (valL (gts gs) (btOfL x i0 ++ btOfL y i1)) os) = true) := by
    show _ = _
    refine pickL_bits (valL_bits _ _ ?_ HBT.out) ?_
    · rw [List.length_append, btOfL_length, btOfL_length]; exact HOK.out
    · rw [valL_length, List.length_append, btOfL_length, btOfL_length, hml.out]; exact HIN.out
  have HG := Lib.hid (show ∀ W, Below w1.heap.size w1 W → Flat 3 W W.heap.size ga gn gs from fun W h => (hg.below (hbw1.trans (h.mono hbw1.size)) (Nat.le_refl _)).up (hbw1.trans (h.mono hbw1.size)).size)
  have HO := Lib.hid (show ∀ W, Below w1.heap.size w1 W → Ints W W.heap.size oa on os from fun W h => (ho.below (hbw1.trans (h.mono hbw1.size)) (Nat.le_refl _)).up (hbw1.trans (h.mono hbw1.size)).size)
  clear za zb pw0 pw1 hwa hwb ha0 hb00
  go_wp2_with (go_at_call 56; first | (rw [W0.out]; refine (within_any _ _ _ _).mono ?_; rintro e w' ⟨rfl, rfl⟩; rw [HWA.out]) | (rw [W1.out]; refine (within_any _ _ _ _).mono ?_; rintro e w' ⟨rfl, rfl⟩; rw [HWB.out]))
  have hS : ∀ W, Below w1.heap.size w1 W → W.cell? ⟨w.heap.size, 0, none⟩ = some (.int .i64 (i0 : Int)) ∧ W.cell? ⟨w.heap.size, 1, none⟩ = some (.int .i64 (i1 : Int)) ∧ W.cell? ⟨w.heap.size, 2, none⟩ = some (.slice ga gn gc) ∧ W.cell? ⟨w.heap.size, 3, none⟩ = some (.slice oa on oc) ∧ Below w1.heap.size w1 W := fun W h => by
    have hc := HBX.out.below h hsz1
    exact ⟨hc.1, hc.2.1, hc.2.2.1, hc.2.2.2, h⟩
  have hS2 : ∀ W W', (W.cell? ⟨w.heap.size, 0, none⟩ = some (.int .i64 (i0 : Int)) ∧ W.cell? ⟨w.heap.size, 1, none⟩ = some (.int .i64 (i1 : Int)) ∧ W.cell? ⟨w.heap.size, 2, none⟩ = some (.slice ga gn gc) ∧ W.cell? ⟨w.heap.size, 3, none⟩ = some (.slice oa on oc) ∧ Below w1.heap.size w1 W) → Below W.heap.size W W' → _ := fun W W' h hb => hS W' (h.2.2.2.2.trans (hb.mono h.2.2.2.2.size))
  have HS := Lib.hid hS
  have HS2 := Lib.hid hS2
  clear hS hS2
  go_region_held3 (fun w' => w'.cell? ⟨w.heap.size, 0, none⟩ = some (.int .i64 (i0 : Int)) ∧ w'.cell? ⟨w.heap.size, 1, none⟩ = some (.int .i64 (i1 : Int)) ∧ w'.cell? ⟨w.heap.size, 2, none⟩ = some (.slice ga gn gc) ∧ w'.cell? ⟨w.heap.size, 3, none⟩ = some (.slice oa on oc) ∧ Below w1.heap.size w1 w') (first | exact HS.out _ (bdrewN (Below.refl _ _) 1) | exact HS2.out _ _ (by assumption) hb6 | exact HS2.out _ _ (by assumption) hb2 | exact HS2.out _ _ (by assumption) hb3 | exact HS2.out _ _ (by assumption) hb4 | exact HS2.out _ _ (by assumption) hb5 | assumption)
    (first | (go_at_call 98; (with_reducible show Calls _ _ #[Value.int IntKind.i64 (x : Int), _] _ _); refine (bitsOf_any _ _ _ (by omega) (by omega)).mono ?_; rintro e w2 ⟨a2, n2, c2, rfl, ho2, hb2⟩; have hl2 := ho2.1; rw [btOfL_length] at hl2; subst hl2) | (go_at_call 98; (with_reducible show Calls _ _ #[Value.int IntKind.i64 (y : Int), _] _ _); refine (bitsOf_any _ _ _ (by omega) (by omega)).mono ?_; rintro e w6 ⟨a6, n6, c6, rfl, ho6, hb6⟩; have hl6 := ho6.1; rw [btOfL_length] at hl6; subst hl6) | (go_at_call 92; have hq1 := ho2.ints.below hb6 (Nat.le_refl _); refine (with_any _ _ _ _ _ _ _ _ _ _ _ hq1 ho6.ints hb6.size (Nat.le_refl _) (by omega) (by omega)).mono ?_; rintro e w3 ⟨a3, n3, c3, rfl, ho3, hb3⟩; obtain rfl : n3 = i0 + i1 := by have := ho3.1; rw [List.length_append, btOfL_length, btOfL_length] at this; exact this.symm) | (go_at_call 92; have hq2 := ho6.ints.below hb2 (Nat.le_refl _); refine (with_any _ _ _ _ _ _ _ _ _ _ _ ho2.ints hq2 (Nat.le_refl _) hb2.size (by omega) (by omega)).mono ?_; rintro e w3 ⟨a3, n3, c3, rfl, ho3, hb3⟩; obtain rfl : n3 = i0 + i1 := by have := ho3.1; rw [List.length_append, btOfL_length, btOfL_length] at this; exact this.symm) | (go_at_call 91; refine (values_any _ _ _ _ _ _ _ _ _ _ _ _ _ _ (HG.out _ (And.right (And.right (And.right (And.right (by assumption)))))) ho3.ints (by omega) (by omega) HOK.out HBT.out).mono ?_; rintro e w4 ⟨a4, n4, c4, rfl, ho4, hb4⟩; obtain rfl : n4 = i0 + i1 + gn := by have := ho4.1; rw [valL_length, List.length_append, btOfL_length, btOfL_length, hml.out] at this; exact this.symm) | (go_at_call 97; refine (at_any _ _ _ _ _ _ _ _ _ _ _ ho4.ints (HO.out _ (And.right (And.right (And.right (And.right (by assumption)))))) (Nat.le_refl _) (Nat.le_refl _) (by omega) HIN.out).mono ?_; rintro e w5 ⟨a5, n5, c5, rfl, ho5, hb5⟩; have hl5 := ho5.1; rw [pickL, List.length_map, hol.out] at hl5; subst hl5) | (go_at_call 96; refine (number_any _ _ _ _ _ _ ho5.ints (by omega) HVB.out).mono ?_; rintro e w' ⟨rfl, rfl⟩))
  all_goals
    rename_i hH
    have hbe := hbw1.trans (hH.2.2.2.2.mono hbw1.size)
    go_wp2_with fail
    go_ret2
    exact ⟨by rw [HE.out] <;> rfl, hbe⟩
end Go.Proofs.Ytbdccgodamkljaa
