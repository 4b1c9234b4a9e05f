/-
  Circuits: the answers of WireValues, EvalCircuit and RunWith.
-/
import Derived.Test.YtbdccgodamkljaaCirc7
namespace Go.Proofs.Ytbdccgodamkljaa
open Go.RowKit
set_option linter.unusedVariables false
set_option linter.unusedSimpArgs false

theorem asked_facts {i0 i1 : Int} {gs os xs ys : List Int} {gn on n m : Nat} (hg : gs.length = gn * 3) (ho : os.length = on) (hx : xs.length = n) (hy : ys.length = m) (h : askedF i0 i1 gs os xs ys = true) :
    i0 = (n : Int) ∧ i1 = (m : Int) ∧ n ≤ 20 ∧ m ≤ 20 ∧ gn ≤ 300 ∧ on ≤ 40 ∧ okG (gts gs) ((n + m : Nat) : Int) = true ∧ allIn 0 (((n + m + gn : Nat) : Int) - 1) os = true ∧ allIn 0 1 (xs ++ ys) = true := by
  simp only [askedF, Bool.and_eq_true, decide_eq_true_eq, goodB] at h
  obtain ⟨h1, ⟨h2, h3⟩, ⟨h4, h5⟩, h6, h7⟩ := h
  obtain ⟨r0, r1, r2, r3, r4, r5⟩ := isCirc_facts hg ho h1
  have q0 := inB_iff.1 r0
  have q1 := inB_iff.1 r1
  rw [hx] at h6
  rw [hy] at h7
  subst h6
  subst h7
  refine ⟨rfl, rfl, by omega, by omega, r2, r3, by rw [Int.natCast_add]; exact r4, by rw [Int.natCast_add, Int.natCast_add]; exact r5, ?_⟩
  rw [allIn_iff] at h3 h5 ⊢
  intro z hz
  rcases List.mem_append.1 hz with hz | hz
  · exact h3 z hz
  · exact h5 z hz
def wireValuesF (i0 i1 : Int) (gs os xs ys : List Int) : List Int × Bool := if askedF i0 i1 gs os xs ys = true then (valL (gts gs) (xs ++ ys), true) else ([], false)
def evalCircuitF (i0 i1 : Int) (gs os xs ys : List Int) : List Int × Bool := if askedF i0 i1 gs os xs ys = true then (pickL (valL (gts gs) (xs ++ ys)) os, true) else ([], false)
theorem ciOuts_any (w : World) (i0 i1 : Int) (ga oa bo : Option Addr) (gn gc on oc n d : Nat) (gs os x : List Int) (hg : Flat 3 w w.heap.size ga gn gs) (ho : Ints w w.heap.size oa on os) (hx : Ints w w.heap.size bo n x) (hn : n ≤ 40) (hgn : gn ≤ 300) (hon : on ≤ 40) (hok : okG (gts gs) n = true) (hb : allIn 0 1 x = true) (hin : allIn 0 (((n + gn : Nat) : Int) - 1) os = true) :
    Calls Try.prog 94 #[circV i0 i1 ga gn gc oa on oc, .slice bo n d] w (RetI (pickL (valL (gts gs) x) os) w) := by
  have hb0 : Below w.heap.size w (w.alloc (.cells #[.int .i64 i0, .int .i64 i1, .slice ga gn gc, .slice oa on oc] 30)) := (Below.refl _ _).alloc (Nat.le_refl _) _
  have hbx := boxC_new w i0 i1 ga gn gc oa on oc 30
  have hsz : w.heap.size < (w.alloc (.cells #[.int .i64 i0, .int .i64 i1, .slice ga gn gc, .slice oa on oc] 30)).heap.size := by simp
  have HOK := Lib.hid hok
  have HB := Lib.hid hb
  have HIN := Lib.hid hin
  have hxl := Lib.hid hx.1
  have hml := Lib.hid (gts_length gn gs hg.1)
  clear hok hb hin
  unfold circV
  go_enter Try.func94, Try.ntmps94
  go_wp2_with fail
  generalize (w.alloc (.cells #[.int .i64 i0, .int .i64 i1, .slice ga gn gc, .slice oa on oc] 30)) = w1 at *
  have HG := Lib.hid (show ∀ W, Below w1.heap.size w1 W → Flat 3 W W.heap.size ga gn gs from fun W h => (hg.below (hb0.trans (h.mono hb0.size)) (Nat.le_refl _)).up (hb0.trans (h.mono hb0.size)).size)
  have HO := Lib.hid (show ∀ W, Below w1.heap.size w1 W → Ints W W.heap.size oa on os from fun W h => (ho.below (hb0.trans (h.mono hb0.size)) (Nat.le_refl _)).up (hb0.trans (h.mono hb0.size)).size)
  have HX := Lib.hid (show ∀ W, Below w1.heap.size w1 W → Ints W W.heap.size bo n x from fun W h => (hx.below (hb0.trans (h.mono hb0.size)) (Nat.le_refl _)).up (hb0.trans (h.mono hb0.size)).size)
  have hS : ∀ W, Below w1.heap.size w1 W → W.cell? ⟨w.heap.size, 0, none⟩ = some (.int .i64 i0) ∧ W.cell? ⟨w.heap.size, 1, none⟩ = some (.int .i64 i1) ∧ W.cell? ⟨w.heap.size, 2, none⟩ = some (.slice ga gn gc) ∧ W.cell? ⟨w.heap.size, 3, none⟩ = some (.slice oa on oc) ∧ Below w1.heap.size w1 W := fun W h => by
    have hc := hbx.below h hsz
    exact ⟨hc.1, hc.2.1, hc.2.2.1, hc.2.2.2, h⟩
  have hS2 : ∀ W W', (W.cell? ⟨w.heap.size, 0, none⟩ = some (.int .i64 i0) ∧ W.cell? ⟨w.heap.size, 1, none⟩ = some (.int .i64 i1) ∧ W.cell? ⟨w.heap.size, 2, none⟩ = some (.slice ga gn gc) ∧ W.cell? ⟨w.heap.size, 3, none⟩ = some (.slice oa on oc) ∧ Below w1.heap.size w1 W) → Below W.heap.size W W' → _ := fun W W' h hb => hS W' (h.2.2.2.2.trans (hb.mono h.2.2.2.2.size))
  have HS := Lib.hid hS
  have HS2 := Lib.hid hS2
  clear hS hS2
  obtain ⟨b0, b1, b2, b3⟩ := hbx
  go_region_held3 (fun w' => w'.cell? ⟨w.heap.size, 0, none⟩ = some (.int .i64 i0) ∧ w'.cell? ⟨w.heap.size, 1, none⟩ = some (.int .i64 i1) ∧ w'.cell? ⟨w.heap.size, 2, none⟩ = some (.slice ga gn gc) ∧ w'.cell? ⟨w.heap.size, 3, none⟩ = some (.slice oa on oc) ∧ Below w1.heap.size w1 w') (first | exact HS.out _ (bdrewN (Below.refl _ _) 1) | exact HS2.out _ _ (by assumption) hb2 | exact HS2.out _ _ (by assumption) hb3 | assumption)
    (first | (go_at_call 88; refine (ciValues_any _ _ _ _ _ _ _ _ _ _ _ _ _ _ (HG.out _ (And.right (And.right (And.right (And.right (by assumption)))))) (HX.out _ (And.right (And.right (And.right (And.right (by assumption)))))) hn hgn HOK.out HB.out).mono ?_; rintro e w2 ⟨a2, n2, c2, rfl, ho2, hb2⟩; obtain rfl : n2 = n + gn := by have := ho2.1; rw [valL_length, hxl.out, hml.out] at this; exact this.symm) | (go_at_call 86; refine (ciPick_any _ _ _ _ _ _ _ _ _ _ _ ho2.ints (HO.out _ (And.right (And.right (And.right (And.right (by assumption)))))) (Nat.le_refl _) (Nat.le_refl _) (by omega) HIN.out).mono ?_; rintro e w3 ⟨a3, n3, c3, rfl, ho3, hb3⟩))
  all_goals
    rename_i hH
    have hbe := hb0.trans (hH.2.2.2.2.mono hb0.size)
    go_wp2_with fail
    go_ret
    exact ⟨_, _, _, rfl, ho3.up (Nat.le_trans hb0.size hb2.size), hbe⟩
theorem spec_WireValues_any (w : World) (i0 i1 : Int) (ga oa ao bo : Option Addr) (gn gc on oc n m c d : Nat) (gs os xs ys : List Int) (hg : Flat 3 w w.heap.size ga gn gs) (ho : Ints w w.heap.size oa on os) (hx : Ints w w.heap.size ao n xs) (hy : Ints w w.heap.size bo m ys) :
    Calls Try.prog 43 #[circV i0 i1 ga gn gc oa on oc, .slice ao n c, .slice bo m d] w (RetIB (wireValuesF i0 i1 gs os xs ys) w) := by
  have hb0 : Below w.heap.size w (w.alloc (.cells #[.int .i64 i0, .int .i64 i1, .slice ga gn gc, .slice oa on oc] 30)) := (Below.refl _ _).alloc (Nat.le_refl _) _
  have hbx := boxC_new w i0 i1 ga gn gc oa on oc 30
  have hsz : w.heap.size < (w.alloc (.cells #[.int .i64 i0, .int .i64 i1, .slice ga gn gc, .slice oa on oc] 30)).heap.size := by simp
  have hg1 := (hg.below hb0 (Nat.le_refl _)).up hb0.size
  have ho1 := (ho.below hb0 (Nat.le_refl _)).up hb0.size
  have hx1 := (hx.below hb0 (Nat.le_refl _)).up hb0.size
  have hy1 := (hy.below hb0 (Nat.le_refl _)).up hb0.size
  have hgl := Lib.hid hg.1
  have hol := Lib.hid ho.1
  have hxl := Lib.hid hx.1
  have hyl := Lib.hid hy.1
  unfold circV
  cases hc : askedF i0 i1 gs os xs ys
  · go_enter Try.func43, Try.ntmps43
    go_wp2_with (go_at_call 87; refine (ciAsked_any _ _ _ _ _ _ _ _ _ _ _ _ _ _ _ _ _ _ _ hg1 ho1 hx1 hy1).mono ?_; rintro e w1 ⟨rfl, hb1⟩; rw [hc])
    go_ret2
    exact ⟨none, 0, 0, by simp [wireValuesF, hc], by simpa [wireValuesF, hc] using OwnI.nil _ _ _, hb0.trans (hb1.mono hb0.size)⟩
  · obtain ⟨rfl, rfl, f1, f2, f3, f4, f5, f6, f7⟩ := asked_facts hgl.out hol.out hxl.out hyl.out hc
    have HOK := Lib.hid f5
    have HIN := Lib.hid f6
    have HBT := Lib.hid f7
    have HE : Hid (wireValuesF (n : Int) (m : Int) gs os xs ys = (valL (gts gs) (xs ++ ys), true)) := by show _ = _; simp [wireValuesF, hc]
    clear f5 f6 f7
    go_enter Try.func43, Try.ntmps43
    go_wp2_with fail
    generalize (w.alloc (.cells #[.int .i64 (n : Int), .int .i64 (m : Int), .slice ga gn gc, .slice oa on oc] 30)) = w0 at *
    refine (ciAsked_any _ _ _ _ _ _ _ _ _ _ _ _ _ _ _ _ _ _ _ hg1 ho1 hx1 hy1).mono ?_
    rintro e w1 ⟨rfl, hb1⟩
    rw [hc]
    have hbw1 := hb0.trans (hb1.mono hb0.size)
    have hbx1 := hbx.below hb1 hsz
    have hsz1 := Nat.lt_of_lt_of_le hsz hb1.size
    have HG := Lib.hid (show ∀ W, Below w1.heap.size w1 W → Flat 3 W W.heap.size ga gn gs from fun W h => (hg.below (hbw1.trans (h.mono hbw1.size)) (Nat.le_refl _)).up (hbw1.trans (h.mono hbw1.size)).size)
    have HO := Lib.hid (show ∀ W, Below w1.heap.size w1 W → Ints W W.heap.size oa on os from fun W h => (ho.below (hbw1.trans (h.mono hbw1.size)) (Nat.le_refl _)).up (hbw1.trans (h.mono hbw1.size)).size)
    have HX := Lib.hid (show ∀ W, Below w1.heap.size w1 W → Ints W W.heap.size ao n xs from fun W h => (hx.below (hbw1.trans (h.mono hbw1.size)) (Nat.le_refl _)).up (hbw1.trans (h.mono hbw1.size)).size)
    have HY := Lib.hid (show ∀ W, Below w1.heap.size w1 W → Ints W W.heap.size bo m ys from fun W h => (hy.below (hbw1.trans (h.mono hbw1.size)) (Nat.le_refl _)).up (hbw1.trans (h.mono hbw1.size)).size)
    have hS : ∀ W, Below w1.heap.size w1 W → W.cell? ⟨w.heap.size, 0, none⟩ = some (.int .i64 (n : Int)) ∧ W.cell? ⟨w.heap.size, 1, none⟩ = some (.int .i64 (m : Int)) ∧ W.cell? ⟨w.heap.size, 2, none⟩ = some (.slice ga gn gc) ∧ W.cell? ⟨w.heap.size, 3, none⟩ = some (.slice oa on oc) ∧ Below w1.heap.size w1 W := fun W h => by
      have hc := hbx1.below h hsz1
      exact ⟨hc.1, hc.2.1, hc.2.2.1, hc.2.2.2, h⟩
    have hS2 : ∀ W W', (W.cell? ⟨w.heap.size, 0, none⟩ = some (.int .i64 (n : Int)) ∧ W.cell? ⟨w.heap.size, 1, none⟩ = some (.int .i64 (m : Int)) ∧ W.cell? ⟨w.heap.size, 2, none⟩ = some (.slice ga gn gc) ∧ W.cell? ⟨w.heap.size, 3, none⟩ = some (.slice oa on oc) ∧ Below w1.heap.size w1 W) → Below W.heap.size W W' → _ := fun W W' h hb => hS W' (h.2.2.2.2.trans (hb.mono h.2.2.2.2.size))
    have HS := Lib.hid hS
    have HS2 := Lib.hid hS2
    clear hS hS2
    obtain ⟨b0, b1, b2, b3⟩ := hbx1
    go_wp2_with fail
    go_region_held3 (fun w' => w'.cell? ⟨w.heap.size, 0, none⟩ = some (.int .i64 (n : Int)) ∧ w'.cell? ⟨w.heap.size, 1, none⟩ = some (.int .i64 (m : Int)) ∧ w'.cell? ⟨w.heap.size, 2, none⟩ = some (.slice ga gn gc) ∧ w'.cell? ⟨w.heap.size, 3, none⟩ = some (.slice oa on oc) ∧ Below w1.heap.size w1 w') (first | exact HS.out _ (bdrewN (Below.refl _ _) 1) | exact HS2.out _ _ (by assumption) hb2 | exact HS2.out _ _ (by assumption) hb3 | assumption)
      (first | (go_at_call 89; refine (ciJoin_any _ _ _ _ _ _ _ _ _ _ _ (HX.out _ (And.right (And.right (And.right (And.right (by assumption)))))) (HY.out _ (And.right (And.right (And.right (And.right (by assumption)))))) (Nat.le_refl _) (Nat.le_refl _) (by omega) (by omega)).mono ?_; rintro e w2 ⟨a2, n2, c2, rfl, ho2, hb2⟩; obtain rfl : n2 = n + m := by have := ho2.1; rw [List.length_append, hxl.out, hyl.out] at this; exact this.symm) | (go_at_call 88; refine (ciValues_any _ _ _ _ _ _ _ _ _ _ _ _ _ _ (HG.out _ (And.right (And.right (And.right (And.right (by assumption)))))) ho2.ints (by omega) (by omega) HOK.out HBT.out).mono ?_; rintro e w3 ⟨a3, n3, c3, rfl, ho3, hb3⟩))
    all_goals
      rename_i hH
      have hbe := hbw1.trans (hH.2.2.2.2.mono hbw1.size)
      have hle := Nat.le_trans hbw1.size (Nat.le_refl _)
      go_wp2_with fail
      go_ret2
      have hsx := hb2.size
      exact ⟨_, _, _, by rw [HE.out]; rfl, by rw [HE.out]; exact ho3.up (Nat.le_trans hbw1.size hb2.size), hbe⟩
theorem impl_WireValues_any (w : World) (i0 i1 : Int) (ga oa ao bo : Option Addr) (gn gc on oc n m c d : Nat) (gs os xs ys : List Int) (hg : Flat 3 w w.heap.size ga gn gs) (ho : Ints w w.heap.size oa on os) (hx : Ints w w.heap.size ao n xs) (hy : Ints w w.heap.size bo m ys) :
    Calls Try.prog 45 #[circV i0 i1 ga gn gc oa on oc, .slice ao n c, .slice bo m d] w (RetIB (wireValuesF i0 i1 gs os xs ys) w) := by
  have hb0 : Below w.heap.size w (w.alloc (.cells #[.int .i64 i0, .int .i64 i1, .slice ga gn gc, .slice oa on oc] 30)) := (Below.refl _ _).alloc (Nat.le_refl _) _
  have hbx := boxC_new w i0 i1 ga gn gc oa on oc 30
  have hsz : w.heap.size < (w.alloc (.cells #[.int .i64 i0, .int .i64 i1, .slice ga gn gc, .slice oa on oc] 30)).heap.size := by simp
  have hg1 := (hg.below hb0 (Nat.le_refl _)).up hb0.size
  have ho1 := (ho.below hb0 (Nat.le_refl _)).up hb0.size
  have hx1 := (hx.below hb0 (Nat.le_refl _)).up hb0.size
  have hy1 := (hy.below hb0 (Nat.le_refl _)).up hb0.size
  have hgl := Lib.hid hg.1
  have hol := Lib.hid ho.1
  have hxl := Lib.hid hx.1
  have hyl := Lib.hid hy.1
  unfold circV
  cases hc : askedF i0 i1 gs os xs ys
  · go_enter Try.func45, Try.ntmps45
    go_wp2_with (go_at_call 90; refine (areInputs_any _ _ _ _ _ _ _ _ _ _ _ _ _ _ _ _ _ _ _ hg1 ho1 hx1 hy1).mono ?_; rintro e w1 ⟨rfl, hb1⟩; rw [hc])
    go_ret2
    exact ⟨none, 0, 0, by simp [wireValuesF, hc], by simpa [wireValuesF, hc] using OwnI.nil _ _ _, hb0.trans (hb1.mono hb0.size)⟩
  · obtain ⟨rfl, rfl, f1, f2, f3, f4, f5, f6, f7⟩ := asked_facts hgl.out hol.out hxl.out hyl.out hc
    have HOK := Lib.hid f5
    have HIN := Lib.hid f6
    have HBT := Lib.hid f7
    have HE : Hid (wireValuesF (n : Int) (m : Int) gs os xs ys = (valL (gts gs) (xs ++ ys), true)) := by show _ = _; simp [wireValuesF, hc]
    clear f5 f6 f7
    go_enter Try.func45, Try.ntmps45
    go_wp2_with fail
    generalize (w.alloc (.cells #[.int .i64 (n : Int), .int .i64 (m : Int), .slice ga gn gc, .slice oa on oc] 30)) = w0 at *
    refine (areInputs_any _ _ _ _ _ _ _ _ _ _ _ _ _ _ _ _ _ _ _ hg1 ho1 hx1 hy1).mono ?_
    rintro e w1 ⟨rfl, hb1⟩
    rw [hc]
    have hbw1 := hb0.trans (hb1.mono hb0.size)
    have hbx1 := hbx.below hb1 hsz
    have hsz1 := Nat.lt_of_lt_of_le hsz hb1.size
    have HG := Lib.hid (show ∀ W, Below w1.heap.size w1 W → Flat 3 W W.heap.size ga gn gs from fun W h => (hg.below (hbw1.trans (h.mono hbw1.size)) (Nat.le_refl _)).up (hbw1.trans (h.mono hbw1.size)).size)
    have HO := Lib.hid (show ∀ W, Below w1.heap.size w1 W → Ints W W.heap.size oa on os from fun W h => (ho.below (hbw1.trans (h.mono hbw1.size)) (Nat.le_refl _)).up (hbw1.trans (h.mono hbw1.size)).size)
    have HX := Lib.hid (show ∀ W, Below w1.heap.size w1 W → Ints W W.heap.size ao n xs from fun W h => (hx.below (hbw1.trans (h.mono hbw1.size)) (Nat.le_refl _)).up (hbw1.trans (h.mono hbw1.size)).size)
    have HY := Lib.hid (show ∀ W, Below w1.heap.size w1 W → Ints W W.heap.size bo m ys from fun W h => (hy.below (hbw1.trans (h.mono hbw1.size)) (Nat.le_refl _)).up (hbw1.trans (h.mono hbw1.size)).size)
    have hS : ∀ W, Below w1.heap.size w1 W → W.cell? ⟨w.heap.size, 0, none⟩ = some (.int .i64 (n : Int)) ∧ W.cell? ⟨w.heap.size, 1, none⟩ = some (.int .i64 (m : Int)) ∧ W.cell? ⟨w.heap.size, 2, none⟩ = some (.slice ga gn gc) ∧ W.cell? ⟨w.heap.size, 3, none⟩ = some (.slice oa on oc) ∧ Below w1.heap.size w1 W := fun W h => by
      have hc := hbx1.below h hsz1
      exact ⟨hc.1, hc.2.1, hc.2.2.1, hc.2.2.2, h⟩
    have hS2 : ∀ W W', (W.cell? ⟨w.heap.size, 0, none⟩ = some (.int .i64 (n : Int)) ∧ W.cell? ⟨w.heap.size, 1, none⟩ = some (.int .i64 (m : Int)) ∧ W.cell? ⟨w.heap.size, 2, none⟩ = some (.slice ga gn gc) ∧ W.cell? ⟨w.heap.size, 3, none⟩ = some (.slice oa on oc) ∧ Below w1.heap.size w1 W) → Below W.heap.size W W' → _ := fun W W' h hb => hS W' (h.2.2.2.2.trans (hb.mono h.2.2.2.2.size))
    have HS := Lib.hid hS
    have HS2 := Lib.hid hS2
    clear hS hS2
    obtain ⟨b0, b1, b2, b3⟩ := hbx1
    go_wp2_with fail
    go_region_held3 (fun w' => w'.cell? ⟨w.heap.size, 0, none⟩ = some (.int .i64 (n : Int)) ∧ w'.cell? ⟨w.heap.size, 1, none⟩ = some (.int .i64 (m : Int)) ∧ w'.cell? ⟨w.heap.size, 2, none⟩ = some (.slice ga gn gc) ∧ w'.cell? ⟨w.heap.size, 3, none⟩ = some (.slice oa on oc) ∧ Below w1.heap.size w1 w') (first | exact HS.out _ (bdrewN (Below.refl _ _) 1) | exact HS2.out _ _ (by assumption) hb2 | exact HS2.out _ _ (by assumption) hb3 | assumption)
      (first | (go_at_call 92; refine (with_any _ _ _ _ _ _ _ _ _ _ _ (HX.out _ (And.right (And.right (And.right (And.right (by assumption)))))) (HY.out _ (And.right (And.right (And.right (And.right (by assumption)))))) (Nat.le_refl _) (Nat.le_refl _) (by omega) (by omega)).mono ?_; rintro e w2 ⟨a2, n2, c2, rfl, ho2, hb2⟩; obtain rfl : n2 = n + m := by have := ho2.1; rw [List.length_append, hxl.out, hyl.out] at this; exact this.symm) | (go_at_call 91; refine (values_any _ _ _ _ _ _ _ _ _ _ _ _ _ _ (HG.out _ (And.right (And.right (And.right (And.right (by assumption)))))) ho2.ints (by omega) (by omega) HOK.out HBT.out).mono ?_; rintro e w3 ⟨a3, n3, c3, rfl, ho3, hb3⟩))
    all_goals
      rename_i hH
      have hbe := hbw1.trans (hH.2.2.2.2.mono hbw1.size)
      have hle := Nat.le_trans hbw1.size (Nat.le_refl _)
      go_wp2_with fail
      go_ret2
      have hsx := hb2.size
      exact ⟨_, _, _, by rw [HE.out]; rfl, by rw [HE.out]; exact ho3.up (Nat.le_trans hbw1.size hb2.size), hbe⟩
theorem spec_EvalCircuit_any (w : World) (i0 i1 : Int) (ga oa ao bo : Option Addr) (gn gc on oc n m c d : Nat) (gs os xs ys : List Int) (hg : Flat 3 w w.heap.size ga gn gs) (ho : Ints w w.heap.size oa on os) (hx : Ints w w.heap.size ao n xs) (hy : Ints w w.heap.size bo m ys) :
    Calls Try.prog 50 #[circV i0 i1 ga gn gc oa on oc, .slice ao n c, .slice bo m d] w (RetIB (evalCircuitF i0 i1 gs os xs ys) w) := by
  have hb0 : Below w.heap.size w (w.alloc (.cells #[.int .i64 i0, .int .i64 i1, .slice ga gn gc, .slice oa on oc] 30)) := (Below.refl _ _).alloc (Nat.le_refl _) _
  have hbx := boxC_new w i0 i1 ga gn gc oa on oc 30
  have hsz : w.heap.size < (w.alloc (.cells #[.int .i64 i0, .int .i64 i1, .slice ga gn gc, .slice oa on oc] 30)).heap.size := by simp
  have hg1 := (hg.below hb0 (Nat.le_refl _)).up hb0.size
  have ho1 := (ho.below hb0 (Nat.le_refl _)).up hb0.size
  have hx1 := (hx.below hb0 (Nat.le_refl _)).up hb0.size
  have hy1 := (hy.below hb0 (Nat.le_refl _)).up hb0.size
  have hgl := Lib.hid hg.1
  have hol := Lib.hid ho.1
  have hxl := Lib.hid hx.1
  have hyl := Lib.hid hy.1
  unfold circV
  cases hc : askedF i0 i1 gs os xs ys
  · go_enter Try.func50, Try.ntmps50
    go_wp2_with (go_at_call 87; refine (ciAsked_any _ _ _ _ _ _ _ _ _ _ _ _ _ _ _ _ _ _ _ hg1 ho1 hx1 hy1).mono ?_; rintro e w1 ⟨rfl, hb1⟩; rw [hc])
    go_ret2
    exact ⟨none, 0, 0, by simp [evalCircuitF, hc], by simpa [evalCircuitF, hc] using OwnI.nil _ _ _, hb0.trans (hb1.mono hb0.size)⟩
  · obtain ⟨rfl, rfl, f1, f2, f3, f4, f5, f6, f7⟩ := asked_facts hgl.out hol.out hxl.out hyl.out hc
    have HOK := Lib.hid f5
    have HIN := Lib.hid f6
    have HBT := Lib.hid f7
    have HE : Hid (evalCircuitF (n : Int) (m : Int) gs os xs ys = (pickL (valL (gts gs) (xs ++ ys)) os, true)) := by show _ = _; simp [evalCircuitF, hc]
    clear f5 f6 f7
    go_enter Try.func50, Try.ntmps50
    go_wp2_with fail
    generalize (w.alloc (.cells #[.int .i64 (n : Int), .int .i64 (m : Int), .slice ga gn gc, .slice oa on oc] 30)) = w0 at *
    refine (ciAsked_any _ _ _ _ _ _ _ _ _ _ _ _ _ _ _ _ _ _ _ hg1 ho1 hx1 hy1).mono ?_
    rintro e w1 ⟨rfl, hb1⟩
    rw [hc]
    have hbw1 := hb0.trans (hb1.mono hb0.size)
    have hbx1 := hbx.below hb1 hsz
    have hsz1 := Nat.lt_of_lt_of_le hsz hb1.size
    have HG := Lib.hid (show ∀ W, Below w1.heap.size w1 W → Flat 3 W W.heap.size ga gn gs from fun W h => (hg.below (hbw1.trans (h.mono hbw1.size)) (Nat.le_refl _)).up (hbw1.trans (h.mono hbw1.size)).size)
    have HO := Lib.hid (show ∀ W, Below w1.heap.size w1 W → Ints W W.heap.size oa on os from fun W h => (ho.below (hbw1.trans (h.mono hbw1.size)) (Nat.le_refl _)).up (hbw1.trans (h.mono hbw1.size)).size)
    have HX := Lib.hid (show ∀ W, Below w1.heap.size w1 W → Ints W W.heap.size ao n xs from fun W h => (hx.below (hbw1.trans (h.mono hbw1.size)) (Nat.le_refl _)).up (hbw1.trans (h.mono hbw1.size)).size)
    have HY := Lib.hid (show ∀ W, Below w1.heap.size w1 W → Ints W W.heap.size bo m ys from fun W h => (hy.below (hbw1.trans (h.mono hbw1.size)) (Nat.le_refl _)).up (hbw1.trans (h.mono hbw1.size)).size)
    have hS : ∀ W, Below w1.heap.size w1 W → W.cell? ⟨w.heap.size, 0, none⟩ = some (.int .i64 (n : Int)) ∧ W.cell? ⟨w.heap.size, 1, none⟩ = some (.int .i64 (m : Int)) ∧ W.cell? ⟨w.heap.size, 2, none⟩ = some (.slice ga gn gc) ∧ W.cell? ⟨w.heap.size, 3, none⟩ = some (.slice oa on oc) ∧ Below w1.heap.size w1 W := fun W h => by
      have hc := hbx1.below h hsz1
      exact ⟨hc.1, hc.2.1, hc.2.2.1, hc.2.2.2, h⟩
    have hS2 : ∀ W W', (W.cell? ⟨w.heap.size, 0, none⟩ = some (.int .i64 (n : Int)) ∧ W.cell? ⟨w.heap.size, 1, none⟩ = some (.int .i64 (m : Int)) ∧ W.cell? ⟨w.heap.size, 2, none⟩ = some (.slice ga gn gc) ∧ W.cell? ⟨w.heap.size, 3, none⟩ = some (.slice oa on oc) ∧ Below w1.heap.size w1 W) → Below W.heap.size W W' → _ := fun W W' h hb => hS W' (h.2.2.2.2.trans (hb.mono h.2.2.2.2.size))
    have HS := Lib.hid hS
    have HS2 := Lib.hid hS2
    clear hS hS2
    obtain ⟨b0, b1, b2, b3⟩ := hbx1
    go_wp2_with fail
    go_region_held3 (fun w' => w'.cell? ⟨w.heap.size, 0, none⟩ = some (.int .i64 (n : Int)) ∧ w'.cell? ⟨w.heap.size, 1, none⟩ = some (.int .i64 (m : Int)) ∧ w'.cell? ⟨w.heap.size, 2, none⟩ = some (.slice ga gn gc) ∧ w'.cell? ⟨w.heap.size, 3, none⟩ = some (.slice oa on oc) ∧ Below w1.heap.size w1 w') (first | exact HS.out _ (bdrewN (Below.refl _ _) 1) | exact HS2.out _ _ (by assumption) hb2 | exact HS2.out _ _ (by assumption) hb3 | assumption)
      (first | (go_at_call 89; refine (ciJoin_any _ _ _ _ _ _ _ _ _ _ _ (HX.out _ (And.right (And.right (And.right (And.right (by assumption)))))) (HY.out _ (And.right (And.right (And.right (And.right (by assumption)))))) (Nat.le_refl _) (Nat.le_refl _) (by omega) (by omega)).mono ?_; rintro e w2 ⟨a2, n2, c2, rfl, ho2, hb2⟩; obtain rfl : n2 = n + m := by have := ho2.1; rw [List.length_append, hxl.out, hyl.out] at this; exact this.symm) | (go_at_call 94; refine (ciOuts_any _ _ _ _ _ _ _ _ _ _ _ _ _ _ _ (HG.out _ (And.right (And.right (And.right (And.right (by assumption)))))) (HO.out _ (And.right (And.right (And.right (And.right (by assumption)))))) ho2.ints (by omega) (by omega) (by omega) HOK.out HBT.out HIN.out).mono ?_; rintro e w3 ⟨a3, n3, c3, rfl, ho3, hb3⟩))
    all_goals
      rename_i hH
      have hbe := hbw1.trans (hH.2.2.2.2.mono hbw1.size)
      have hle := Nat.le_trans hbw1.size (Nat.le_refl _)
      go_wp2_with fail
      go_ret2
      have hsx := hb2.size
      exact ⟨_, _, _, by rw [HE.out]; rfl, by rw [HE.out]; exact ho3.up (Nat.le_trans hbw1.size hb2.size), hbe⟩
theorem impl_EvalCircuit_any (w : World) (i0 i1 : Int) (ga oa ao bo : Option Addr) (gn gc on oc n m c d : Nat) (gs os xs ys : List Int) (hg : Flat 3 w w.heap.size ga gn gs) (ho : Ints w w.heap.size oa on os) (hx : Ints w w.heap.size ao n xs) (hy : Ints w w.heap.size bo m ys) :
    Calls Try.prog 51 #[circV i0 i1 ga gn gc oa on oc, .slice ao n c, .slice bo m d] w (RetIB (evalCircuitF i0 i1 gs os xs ys) w) := by
  have hb0 : Below w.heap.size w (w.alloc (.cells #[.int .i64 i0, .int .i64 i1, .slice ga gn gc, .slice oa on oc] 30)) := (Below.refl _ _).alloc (Nat.le_refl _) _
  have hbx := boxC_new w i0 i1 ga gn gc oa on oc 30
  have hsz : w.heap.size < (w.alloc (.cells #[.int .i64 i0, .int .i64 i1, .slice ga gn gc, .slice oa on oc] 30)).heap.size := by simp
  have hg1 := (hg.below hb0 (Nat.le_refl _)).up hb0.size
  have ho1 := (ho.below hb0 (Nat.le_refl _)).up hb0.size
  have hx1 := (hx.below hb0 (Nat.le_refl _)).up hb0.size
  have hy1 := (hy.below hb0 (Nat.le_refl _)).up hb0.size
  have hgl := Lib.hid hg.1
  have hol := Lib.hid ho.1
  have hxl := Lib.hid hx.1
  have hyl := Lib.hid hy.1
  have hml := Lib.hid (gts_length gn gs hg.1)
  unfold circV
  go_enter Try.func51, Try.ntmps51
  go_wp2_with fail
  generalize (w.alloc (.cells #[.int .i64 i0, .int .i64 i1, .slice ga gn gc, .slice oa on oc] 30)) = w0 at *
  refine (impl_WireValues_any _ _ _ _ _ _ _ _ _ _ _ _ _ _ _ _ _ _ _ hg1 ho1 hx1 hy1).mono ?_
  rintro e w1 ⟨a1, n1, c1, rfl, ho2, hb1⟩
  have hbw1 := hb0.trans (hb1.mono hb0.size)
  obtain ⟨q0, q1, q2, q3⟩ := hbx.below hb1 hsz
  cases hc : askedF i0 i1 gs os xs ys
  · rw [show (wireValuesF i0 i1 gs os xs ys).2 = false from by simp [wireValuesF, hc]]
    go_wp2_with fail
    go_ret2
    exact ⟨none, 0, 0, by simp [evalCircuitF, hc], by simpa [evalCircuitF, hc] using OwnI.nil _ _ _, hbw1⟩
  · have e1 : wireValuesF i0 i1 gs os xs ys = (valL (gts gs) (xs ++ ys), true) := by simp [wireValuesF, hc]
    rw [e1] at ho2 ⊢
    obtain ⟨rfl, rfl, f1, f2, f3, f4, f5, f6, f7⟩ := asked_facts hgl.out hol.out hxl.out hyl.out hc
    have HE : Hid (evalCircuitF (n : Int) (m : Int) gs os xs ys = (pickL (valL (gts gs) (xs ++ ys)) os, true)) := by show _ = _; simp [evalCircuitF, hc]
    have HIN := Lib.hid f6
    obtain rfl : n1 = n + m + gn := by have := ho2.1; rw [valL_length, List.length_append, hxl.out, hyl.out, hml.out] at this; exact this.symm
    clear f5 f6 f7 e1
    go_wp2_with fail
    refine (at_any _ _ _ _ _ _ _ _ _ _ _ ho2.ints ((ho.below hbw1 (Nat.le_refl _)).up hbw1.size) (Nat.le_refl _) (Nat.le_refl _) (by omega) HIN.out).mono ?_
    rintro e w2 ⟨a3, n3, c3, rfl, ho3, hb2⟩
    go_wp2_with fail
    go_ret2
    exact ⟨_, _, _, by rw [HE.out]; rfl, by rw [HE.out]; exact ho3.up hbw1.size, hbw1.trans (hb2.mono hbw1.size)⟩
end Go.Proofs.Ytbdccgodamkljaa
