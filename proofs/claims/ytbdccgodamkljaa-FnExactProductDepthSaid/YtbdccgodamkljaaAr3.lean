/-
  Arithmetic circuits in the laws: copies, comparisons, sizes, marks.
-/
import Derived.Test.YtbdccgodamkljaaAr2
namespace Go.Proofs.Ytbdccgodamkljaa
open Go.RowKit
set_option linter.unusedVariables false
set_option linter.unusedSimpArgs false

/-- What a call that makes a circuit hands back. -/
def RetA (p i0 i1 : Int) (gs os : List Int) (w : World) (e : Ending) (w' : World) : Prop := ∃ ga gn gc oa on oc, e = .returned (arithV p i0 i1 ga gn gc oa on oc) ∧ OwnCi w.heap.size w' ga gn gc oa on oc gs os ∧ Below w.heap.size w w'
theorem toArith_any (w : World) (p i0 i1 : Int) (ga oa : Option Addr) (gn gc on oc : Nat) (gs os : List Int) (hg : Flat 3 w w.heap.size ga gn gs) (ho : Ints w w.heap.size oa on os) :
    Calls Try.prog 22 #[arithV p i0 i1 ga gn gc oa on oc] w (RetA p i0 i1 gs os w) := by
  unfold arithV
  go_enter Try.func22, Try.ntmps22
  go_wp2_with fail
  have n1 := heap_alloc_new w (.cells #[.int .i64 p, .int .i64 i0, .int .i64 i1, .slice ga gn gc, .slice oa on oc] 35)
  have b1 : Below w.heap.size w (w.alloc (.cells #[.int .i64 p, .int .i64 i0, .int .i64 i1, .slice ga gn gc, .slice oa on oc] 35)) := (Below.refl _ _).alloc (Nat.le_refl _) _
  have z1 : (w.alloc (.cells #[.int .i64 p, .int .i64 i0, .int .i64 i1, .slice ga gn gc, .slice oa on oc] 35)).heap.size = w.heap.size + 1 := by simp
  generalize w.alloc (.cells #[.int .i64 p, .int .i64 i0, .int .i64 i1, .slice ga gn gc, .slice oa on oc] 35) = v1 at *
  have n2 := heap_alloc_new v1 (.cells #[.int .i64 0, .int .i64 0, .int .i64 0, .slice none 0 0, .slice none 0 0] 39)
  have b2 : Below v1.heap.size v1 (v1.alloc (.cells #[.int .i64 0, .int .i64 0, .int .i64 0, .slice none 0 0, .slice none 0 0] 39)) := (Below.refl _ _).alloc (Nat.le_refl _) _
  have z2 : (v1.alloc (.cells #[.int .i64 0, .int .i64 0, .int .i64 0, .slice none 0 0, .slice none 0 0] 39)).heap.size = v1.heap.size + 1 := by simp
  generalize v1.alloc (.cells #[.int .i64 0, .int .i64 0, .int .i64 0, .slice none 0 0, .slice none 0 0] 39) = v2 at *
  have n3 := heap_alloc_new v2 (.cells #[.int .i64 p, .int .i64 i0, .int .i64 i1, .slice none 0 0, .slice none 0 0] 39)
  have b3 : Below v2.heap.size v2 (v2.alloc (.cells #[.int .i64 p, .int .i64 i0, .int .i64 i1, .slice none 0 0, .slice none 0 0] 39)) := (Below.refl _ _).alloc (Nat.le_refl _) _
  have z3 : (v2.alloc (.cells #[.int .i64 p, .int .i64 i0, .int .i64 i1, .slice none 0 0, .slice none 0 0] 39)).heap.size = v2.heap.size + 1 := by simp
  generalize v2.alloc (.cells #[.int .i64 p, .int .i64 i0, .int .i64 i1, .slice none 0 0, .slice none 0 0] 39) = v3 at *
  have hB : Below w.heap.size w v3 := b1.trans ((b2.trans (b3.mono (by omega))).mono (by omega))
  have k1 : v3.heap[w.heap.size]? = some (.cells #[.int .i64 p, .int .i64 i0, .int .i64 i1, .slice ga gn gc, .slice oa on oc] 35 (0, 0)) := (b3.block _ (by omega)).trans ((b2.block _ (by omega)).trans n1)
  have k2 : v3.heap[w.heap.size + 1]? = some (.cells #[.int .i64 0, .int .i64 0, .int .i64 0, .slice none 0 0, .slice none 0 0] 39 (0, 0)) := (b3.block _ (by omega)).trans (by rw [← z1]; exact n2)
  have k3 : v3.heap[w.heap.size + 1 + 1]? = some (.cells #[.int .i64 p, .int .i64 i0, .int .i64 i1, .slice none 0 0, .slice none 0 0] 39 (0, 0)) := by rw [← z1, ← z2]; exact n3
  have z4 : v3.heap.size = w.heap.size + 3 := by omega
  clear n1 n2 n3 b1 b2 b3 z1 z2 z3
  refine (toGateS_any _ _ _ _ _ ((hg.below hB (Nat.le_refl _)).up hB.size)).mono ?_
  rintro e w2 ⟨ga2, gn2, gc2, rfl, hog, hb2⟩
  have hB2 := hB.trans (hb2.mono hB.size)
  have hZ2 := hb2.size
  replace k1 := (hb2.block _ (by omega)).trans k1
  replace k2 := (hb2.block _ (by omega)).trans k2
  replace k3 := (hb2.block _ (by omega)).trans k3
  have x1 := (blk_at k1 4).1
  have x2 := (blk_at k3 3).1
  have x3 := (blk_at k3 3).2
  simp at x1 x2
  have k1' := (blk_other (b := w.heap.size) (b' := w.heap.size + 1 + 1) (w := w2) (by omega) 3 (.slice ga2 gn2 gc2)).trans k1
  have k2' := (blk_other (b := w.heap.size + 1) (b' := w.heap.size + 1 + 1) (w := w2) (by omega) 3 (.slice ga2 gn2 gc2)).trans k2
  have k3' := blk_set k3 3 (.slice ga2 gn2 gc2)
  have hB3 : Below w.heap.size w (w2.setCell ⟨w.heap.size + 1 + 1, 3, none⟩ (.slice ga2 gn2 gc2)) := below_set1 hB2 hB2.size (by omega) _ _
  have hZ3 : (w2.setCell ⟨w.heap.size + 1 + 1, 3, none⟩ (.slice ga2 gn2 gc2)).heap.size = w2.heap.size := by simp [World.setCell]
  have hrg := hog.rowLt
  have hog3 := hog.other (gset1 w2 (w.heap.size + 1 + 1) 3 (.slice ga2 gn2 gc2)) (fun p q hp hq => by have := hrg p hp; simp at hq; omega)
  clear k1 k2 k3
  go_wp2_with fail
  generalize w2.setCell ⟨w.heap.size + 1 + 1, 3, none⟩ (.slice ga2 gn2 gc2) = w3 at *
  refine (toIntS_any _ _ _ _ _ ((ho.below hB3 (Nat.le_refl _)).up hB3.size)).mono ?_
  rintro e w4 ⟨oa2, on2, oc2, rfl, hoo, hb4⟩
  have hB4 := hB3.trans (hb4.mono hB3.size)
  have hZ4 := hb4.size
  replace k1' := (hb4.block _ (by omega)).trans k1'
  replace k2' := (hb4.block _ (by omega)).trans k2'
  replace k3' := (hb4.block _ (by omega)).trans k3'
  have hog4 := hog3.below hb4 (Nat.le_refl _)
  have hro := hoo.rowLt
  simp at k3'
  have f0 := (blk_at k3' 0).1
  have f1 := (blk_at k3' 1).1
  have f2 := (blk_at k3' 2).1
  have f3 := (blk_at k3' 3).1
  have f4 := (blk_at k3' 4).1
  have e3 := (blk_at k3' 4).2
  simp at f0 f1 f2 f3 f4
  have k2' := (blk_other (b := w.heap.size + 1) (b' := w.heap.size + 1 + 1) (w := w4) (by omega) 4 (.slice oa2 on2 oc2)).trans k2'
  have k3' := blk_set k3' 4 (.slice oa2 on2 oc2)
  simp at k3'
  have hB5 : Below w.heap.size w (w4.setCell ⟨w.heap.size + 1 + 1, 4, none⟩ (.slice oa2 on2 oc2)) := below_set1 hB4 hB4.size (by omega) _ _
  have hZ5 : (w4.setCell ⟨w.heap.size + 1 + 1, 4, none⟩ (.slice oa2 on2 oc2)).heap.size = w4.heap.size := by simp [World.setCell]
  have hog5 := hog4.other (gset1 w4 (w.heap.size + 1 + 1) 4 (.slice oa2 on2 oc2)) (fun p q hp hq => by have := hrg p hp; simp at hq; omega)
  have hoo5 := hoo.other (gset1 w4 (w.heap.size + 1 + 1) 4 (.slice oa2 on2 oc2)) (fun p q hp hq => by have := hro p hp; simp at hq; omega)
  have g0 := (blk_at k3' 0).1
  have g1 := (blk_at k3' 1).1
  have g2 := (blk_at k3' 2).1
  have g3 := (blk_at k3' 3).1
  have g4 := (blk_at k3' 4).1
  have p0 := (blk_at k2' 0).1
  have p1 := (blk_at k2' 1).1
  have p2 := (blk_at k2' 2).1
  have p3 := (blk_at k2' 3).1
  have p4 := (blk_at k2' 4).1
  have r0 := (blk_at k2' 0).2
  have r1 := (blk_at k2' 1).2
  have r2 := (blk_at k2' 2).2
  have r3 := (blk_at k2' 3).2
  have r4 := (blk_at k2' 4).2
  simp at g0 g1 g2 g3 g4 p0 p1 p2 p3 p4
  go_upto_region 7 with (fail)
  generalize w4.setCell ⟨w.heap.size + 1 + 1, 4, none⟩ (.slice oa2 on2 oc2) = w5 at *
  clear f0 f1 f2 f3 f4 e3
  go_wp2_with fail
  have hn1 : ∀ p q, rowOf ga2 gc2 = some p → some (w.heap.size + 1) = some q → p ≠ q := fun p q hp hq => by have := hrg p hp; simp at hq; omega
  have hn2 : ∀ p q, rowOf oa2 oc2 = some p → some (w.heap.size + 1) = some q → p ≠ q := fun p q hp hq => by have := hro p hp; simp at hq; omega
  have q3 := blk_set (blk_set (blk_set (blk_set (blk_set k2' 0 (.int .i64 p)) 1 (.int .i64 i0)) 2 (.int .i64 i1)) 3 (.slice ga2 gn2 gc2)) 4 (.slice oa2 on2 oc2)
  simp at q3
  have s0 := (blk_at q3 0).1
  have s1 := (blk_at q3 1).1
  have s2 := (blk_at q3 2).1
  have s3 := (blk_at q3 3).1
  have s4 := (blk_at q3 4).1
  simp at s0 s1 s2 s3 s4
  have E1 := ((((hog5.other (gset1 w5 (w.heap.size + 1) 0 (.int .i64 p)) hn1).other (gset1 _ (w.heap.size + 1) 1 (.int .i64 i0)) hn1).other (gset1 _ (w.heap.size + 1) 2 (.int .i64 i1)) hn1).other (gset1 _ (w.heap.size + 1) 3 (.slice ga2 gn2 gc2)) hn1).other (gset1 _ (w.heap.size + 1) 4 (.slice oa2 on2 oc2)) hn1
  have E2 := ((((hoo5.other (gset1 w5 (w.heap.size + 1) 0 (.int .i64 p)) hn2).other (gset1 _ (w.heap.size + 1) 1 (.int .i64 i0)) hn2).other (gset1 _ (w.heap.size + 1) 2 (.int .i64 i1)) hn2).other (gset1 _ (w.heap.size + 1) 3 (.slice ga2 gn2 gc2)) hn2).other (gset1 _ (w.heap.size + 1) 4 (.slice oa2 on2 oc2)) hn2
  have E3 : Below w.heap.size w (((((w5.setCell ⟨w.heap.size + 1, 0, none⟩ (.int .i64 p)).setCell ⟨w.heap.size + 1, 1, none⟩ (.int .i64 i0)).setCell ⟨w.heap.size + 1, 2, none⟩ (.int .i64 i1)).setCell ⟨w.heap.size + 1, 3, none⟩ (.slice ga2 gn2 gc2)).setCell ⟨w.heap.size + 1, 4, none⟩ (.slice oa2 on2 oc2)) := by
    refine below_set1 (below_set1 (below_set1 (below_set1 (below_set1 hB5 hB5.size (by omega) _ _) ?_ (by omega) _ _) ?_ (by omega) _ _) ?_ (by omega) _ _) ?_ (by omega) _ _ <;> simp [World.setCell] <;> omega
  clear g0 g1 g2 g3 g4 p0 p1 p2 p3 p4 r0 r1 r2 r3 r4 k1' k2' k3' q3
  generalize (((((w5.setCell ⟨w.heap.size + 1, 0, none⟩ (.int .i64 p)).setCell ⟨w.heap.size + 1, 1, none⟩ (.int .i64 i0)).setCell ⟨w.heap.size + 1, 2, none⟩ (.int .i64 i1)).setCell ⟨w.heap.size + 1, 3, none⟩ (.slice ga2 gn2 gc2)).setCell ⟨w.heap.size + 1, 4, none⟩ (.slice oa2 on2 oc2)) = w6 at *
  refine bodyPost_ret (v := arithV p i0 i1 ga2 gn2 gc2 oa2 on2 oc2) (by simp [results, Try.results22, arithV, go_sem, s0, s1, s2, s3, s4]) rfl ⟨_, _, _, _, _, _, rfl, ⟨E1.up (by omega), E2.up (by omega), fun p q hp hq => ?_⟩, E3⟩
  have := hrg p hp
  have := hro q hq
  omega
theorem szArith_any (w : World) (p i0 i1 : Int) (ga oa : Option Addr) (gn gc on oc : Nat) (left : Int) (h0 : 0 ≤ left) (h1 : left ≤ 1048576) (hgn : gn ≤ maxLen) (hon : on ≤ maxLen) :
    Calls Try.prog 20 #[arithV p i0 i1 ga gn gc oa on oc, .int .i64 left] w (RetN (szC left gn on) w) := by
  have hb0 : Below w.heap.size w (w.alloc (.cells #[.int .i64 p, .int .i64 i0, .int .i64 i1, .slice ga gn gc, .slice oa on oc] 35)) := (Below.refl _ _).alloc (Nat.le_refl _) _
  have HGN := Lib.hid hgn
  have HON := Lib.hid hon
  unfold maxLen at hgn hon
  unfold arithV
  by_cases hl1 : left - gn < 0
  · go_enter Try.func20, Try.ntmps20
    go_wp2_with (first | (go_at_call 52; refine (szGateS_any _ _ _ _ _ h0 h1 HGN.out).mono ?_; rintro e w' ⟨rfl, rfl⟩; rw [show szF left gn = -1 from by rw [szF, if_pos (by omega)]]))
    go_ret
    exact ⟨ret_int (by rw [szC, if_pos (by omega)]), hb0⟩
  · by_cases hl2 : left - gn - on < 0
    · go_enter Try.func20, Try.ntmps20
      go_wp2_with (first | (go_at_call 52; refine (szGateS_any _ _ _ _ _ h0 h1 HGN.out).mono ?_; rintro e w' ⟨rfl, rfl⟩; rw [show szF left gn = left - gn from by rw [szF, if_neg (by omega)]]) | (go_at_call 53; refine (szIntS_any _ _ _ _ _ (by omega) (by omega) HON.out).mono ?_; rintro e w' ⟨rfl, rfl⟩; rw [show szF (left - gn) on = -1 from by rw [szF, if_pos (by omega)]]))
      go_ret
      exact ⟨ret_int (by rw [szC, if_neg (by omega), if_pos (by omega)]), hb0⟩
    · go_enter Try.func20, Try.ntmps20
      go_wp2_with (first | (go_at_call 52; refine (szGateS_any _ _ _ _ _ h0 h1 HGN.out).mono ?_; rintro e w' ⟨rfl, rfl⟩; rw [show szF left gn = left - gn from by rw [szF, if_neg (by omega)]]) | (go_at_call 53; refine (szIntS_any _ _ _ _ _ (by omega) (by omega) HON.out).mono ?_; rintro e w' ⟨rfl, rfl⟩; rw [show szF (left - gn) on = left - gn - on from by rw [szF, if_neg (by omega)]]))
      go_ret
      exact ⟨ret_int (by rw [szC, if_neg (by omega), if_neg (by omega)]), hb0⟩
/-- Circuits are equal. -/
def eqAB (p i0 i1 : Int) (gs os : List Int) (pp j0 j1 : Int) (gt ot : List Int) : Bool := decide (p = pp) && (decide (i0 = j0) && (decide (i1 = j1) && (eqB gs gt && eqB os ot)))
theorem eqAB_self (p i0 i1 : Int) (gs os : List Int) : eqAB p i0 i1 gs os p i0 i1 gs os = true := by simp [eqAB, eqB_self]
theorem eqArith_any (w : World) (p i0 i1 pp j0 j1 : Int) (ga oa gb ob : Option Addr) (gn gc on oc gm gd om od : Nat) (gs os gt ot : List Int) (hg : Flat 3 w w.heap.size ga gn gs) (ho : Ints w w.heap.size oa on os) (hg2 : Flat 3 w w.heap.size gb gm gt) (ho2 : Ints w w.heap.size ob om ot) :
    Calls Try.prog 24 #[arithV p i0 i1 ga gn gc oa on oc, arithV pp j0 j1 gb gm gd ob om od] w (RetB (eqAB p i0 i1 gs os pp j0 j1 gt ot) w) := by
  have n1 := boxA_new w p i0 i1 ga gn gc oa on oc 39
  have z1 : (w.alloc (.cells #[.int .i64 p, .int .i64 i0, .int .i64 i1, .slice ga gn gc, .slice oa on oc] 39)).heap.size = w.heap.size + 1 := by simp
  have b1 : Below w.heap.size w (w.alloc (.cells #[.int .i64 p, .int .i64 i0, .int .i64 i1, .slice ga gn gc, .slice oa on oc] 39)) := (Below.refl _ _).alloc (Nat.le_refl _) _
  have hb0 : Below w.heap.size w ((w.alloc (.cells #[.int .i64 p, .int .i64 i0, .int .i64 i1, .slice ga gn gc, .slice oa on oc] 39)).alloc (.cells #[.int .i64 pp, .int .i64 j0, .int .i64 j1, .slice gb gm gd, .slice ob om od] 39)) := ((Below.refl _ _).alloc (Nat.le_refl _) _).alloc (by simp) _
  unfold arithV
  by_cases ep : p = pp
  rotate_left
  · have ep' : (p != pp) = true := by simp [ep]
    clear n1 z1 b1
    go_enter Try.func24, Try.ntmps24
    go_wp2_with fail
    go_ret
    exact ⟨ret_bool (by simp [eqAB, ep]), hb0⟩
  subst ep
  by_cases e0 : i0 = j0
  rotate_left
  · have e0' : (i0 != j0) = true := by simp [e0]
    clear n1 z1 b1
    go_enter Try.func24, Try.ntmps24
    go_wp2_with fail
    go_ret
    exact ⟨ret_bool (by simp [eqAB, e0]), hb0⟩
  by_cases e1 : i1 = j1
  rotate_left
  · have e1' : (i1 != j1) = true := by simp [e1]
    subst e0
    clear n1 z1 b1
    go_enter Try.func24, Try.ntmps24
    go_wp2_with fail
    go_ret
    exact ⟨ret_bool (by simp [eqAB, e1]), hb0⟩
  subst e0
  subst e1
  have HE : Hid (eqAB p i0 i1 gs os p i0 i1 gt ot = (eqB gs gt && eqB os ot)) := by show _ = _; simp [eqAB]
  go_enter Try.func24, Try.ntmps24
  go_wp2_with fail
  have n2 := boxA_new (w.alloc (.cells #[.int .i64 p, .int .i64 i0, .int .i64 i1, .slice ga gn gc, .slice oa on oc] 39)) p i0 i1 gb gm gd ob om od 39
  rw [z1] at n2
  have n1' := n1.below ((Below.refl _ (w.alloc (.cells #[.int .i64 p, .int .i64 i0, .int .i64 i1, .slice ga gn gc, .slice oa on oc] 39))).alloc (Nat.le_refl _) (.cells #[.int .i64 p, .int .i64 i0, .int .i64 i1, .slice gb gm gd, .slice ob om od] 39)) (by rw [z1]; omega)
  have z2 : ((w.alloc (.cells #[.int .i64 p, .int .i64 i0, .int .i64 i1, .slice ga gn gc, .slice oa on oc] 39)).alloc (.cells #[.int .i64 p, .int .i64 i0, .int .i64 i1, .slice gb gm gd, .slice ob om od] 39)).heap.size = w.heap.size + 2 := by simp
  clear n1 b1 z1
  generalize (w.alloc (.cells #[.int .i64 p, .int .i64 i0, .int .i64 i1, .slice ga gn gc, .slice oa on oc] 39)).alloc (.cells #[.int .i64 p, .int .i64 i0, .int .i64 i1, .slice gb gm gd, .slice ob om od] 39) = w2 at *
  refine (eqGateS_any _ _ _ _ _ _ _ _ _ _ _ ((hg.below hb0 (Nat.le_refl _)).up hb0.size) ((hg2.below hb0 (Nat.le_refl _)).up hb0.size) (Nat.le_refl _) (Nat.le_refl _)).mono ?_
  rintro e w3 ⟨rfl, hb3⟩
  have hbw := hb0.trans (hb3.mono hb0.size)
  obtain ⟨_, _, _, _, d3⟩ := n1'.below hb3 (by omega)
  obtain ⟨_, _, _, _, f3⟩ := n2.below hb3 (by omega)
  cases hq : eqB gs gt
  · go_wp2_with fail
    go_ret
    exact ⟨ret_bool (by rw [HE.out, hq]; rfl), hbw⟩
  · go_wp2_with fail
    refine (eqIntS_any _ _ _ _ _ _ _ _ _ _ _ ((ho.below hbw (Nat.le_refl _)).up hbw.size) ((ho2.below hbw (Nat.le_refl _)).up hbw.size) (Nat.le_refl _) (Nat.le_refl _)).mono ?_
    rintro e w4 ⟨rfl, hb4⟩
    have hbw2 := hbw.trans (hb4.mono hbw.size)
    cases hq2 : eqB os ot
    · go_wp2_with fail
      go_ret
      exact ⟨ret_bool (by rw [HE.out, hq, hq2]; rfl), hbw2⟩
    · go_wp2_with fail
      go_ret
      exact ⟨ret_bool (by rw [HE.out, hq, hq2]; rfl), hbw2⟩
theorem markArith_any (w : World) (B : Nat) (p i0 i1 : Int) (ga oa : Option Addr) (gn gc on oc : Nat) (k0 : Int) (gs os : List Int) (h : OwnCi B w ga gn gc oa on oc gs os) (hB : B ≤ w.heap.size) (hk0 : 0 ≤ k0) (hk1 : k0 ≤ 1000000) :
    Calls Try.prog 40 #[arithV p i0 i1 ga gn gc oa on oc, .int .i64 k0] w (Marked k0 B ga gn gc oa on oc w) := by
  obtain ⟨hg, ho, hne⟩ := h
  have hgn := hg.le
  have hon := ho.le
  have hrg := hg.rowLt
  have hro := ho.rowLt
  have n1 := boxA_new w p i0 i1 ga gn gc oa on oc 39
  have b1 : Below w.heap.size w (w.alloc (.cells #[.int .i64 p, .int .i64 i0, .int .i64 i1, .slice ga gn gc, .slice oa on oc] 39)) := (Below.refl _ _).alloc (Nat.le_refl _) _
  have z1 : (w.alloc (.cells #[.int .i64 p, .int .i64 i0, .int .i64 i1, .slice ga gn gc, .slice oa on oc] 39)).heap.size = w.heap.size + 1 := by simp
  unfold arithV
  go_enter Try.func40, Try.ntmps40
  go_wp2_with fail
  generalize w.alloc (.cells #[.int .i64 p, .int .i64 i0, .int .i64 i1, .slice ga gn gc, .slice oa on oc] 39) = w1 at *
  have hg1 := hg.below b1 (Nat.le_refl _)
  have ho1 := ho.below b1 (Nat.le_refl _)
  refine (markGateS_any _ _ _ _ _ _ _ hg1 (by omega) (by omega)).mono ?_
  rintro e w2 ⟨rfl, hg2, gr2⟩
  have ho2 := ho1.other gr2 (fun p q hp hq => (hne q p hq hp).symm)
  have hlt : w.heap.size < w1.heap.size := by omega
  have hnr : ∀ q, rowOf ga gc = some q → q ≠ w.heap.size := fun q hq => by have := hrg q hq; omega
  have hk := gr2.block w.heap.size hlt (fun e => hnr _ e.symm rfl)
  obtain ⟨_, _, _, _, c3⟩ := n1
  have c3' : w2.cell? ⟨w.heap.size, 4, none⟩ = some (.slice oa on oc) := by
    rw [← c3]
    simp only [World.cell?, hk]
  go_wp2_with fail
  refine (markIntS_any _ _ _ _ _ _ _ ho2 (by omega) (by omega)).mono ?_
  rintro e w3 ⟨rfl, ho3, gr3⟩
  have hg3 := hg2.other gr3 (fun p q hp hq => hne p q hp hq)
  go_wp2_with fail
  go_ret
  exact ⟨rfl, ⟨hg3, ho3, hne⟩, w2, gfirst b1 gr2, gr3⟩
theorem BoxA.other {w w' : World} {b : Nat} {p i0 i1 : Int} {ga oa : Option Addr} {gn gc on oc : Nat} {row : Option Nat} (h : BoxA w b p i0 i1 ga gn gc oa on oc) (hg : w.grownBy w' row) (hb : b < w.heap.size) (hne : ∀ l, row = some l → b ≠ l) : BoxA w' b p i0 i1 ga gn gc oa on oc := by
  have hk := hg.block b hb (fun e => hne b e.symm rfl)
  obtain ⟨h0, h1, h2, h3, h4⟩ := h
  refine ⟨?_, ?_, ?_, ?_, ?_⟩
  · rw [← h0]; simp only [World.cell?, hk]
  · rw [← h1]; simp only [World.cell?, hk]
  · rw [← h2]; simp only [World.cell?, hk]
  · rw [← h3]; simp only [World.cell?, hk]
  · rw [← h4]; simp only [World.cell?, hk]
set_option maxRecDepth 100000 in
open Go.ChangeShapes Go.WideShapes in
/-- A circuit among the arguments of a law. -/
theorem arg_Arith {H : Type} {enc : TypeId × Value → H} {W : World} {base : Nat} {v : Value} {d : DataW H} {pl : List MemPlace} (hval : Value.okWide Try.prog W .any base 35 v) (h : DataW.Trod enc Try.prog W 0 (fun _ => true) true 35 v d pl) :
    ∃ p i0 i1 ga gn gc oa on oc gs os, v = arithV p i0 i1 ga gn gc oa on oc ∧ FlatArg 3 W ga gn gs ∧ IntsArg W oa on os := by
  obtain ⟨cs, rfl, hsz⟩ := okWide_struct Try.underlying35 hval
  rw [show Try.prog.cellsOf 35 = 5 by kernel_rfl] at hsz
  obtain ⟨fuel, hf⟩ := h
  obtain ⟨xs, n, _, _, _, hxl, hg⟩ := DataW.trod_struct Try.underlying35 hf
  match cs, hsz with
  | ⟨[a0, a, b, c, e]⟩, _ =>
    have gp := hg 0 _ rfl
    have g0 := hg 1 _ rfl
    have g1 := hg 2 _ rfl
    have g2 := hg 3 _ rfl
    have g3 := hg 4 _ rfl
    have c0 : Try.prog.cellsOf 3 = 1 := by kernel_rfl
    have c2 : Try.prog.cellsOf 22 = 1 := by kernel_rfl
    have c3 : Try.prog.cellsOf 23 = 1 := by kernel_rfl
    simp [Value.cells, c0, c2, c3, hxl] at gp g0 g1 g2 g3
    obtain ⟨p, hpp, _⟩ := DataW.trod_int Try.underlying3 gp
    obtain ⟨i0, h0, _⟩ := DataW.trod_int Try.underlying3 g0
    obtain ⟨i1, h1, _⟩ := DataW.trod_int Try.underlying3 g1
    simp at hpp h0 h1
    subst hpp
    subst h0
    subst h1
    have hc : ∃ ga gn gc, c = .slice ga gn gc := by
      rcases Go.Deep.open_slice Try.underlying22 g2 with ⟨hcs, _⟩ | ⟨ad, l, cp, m, n, D, Pl, hcs, _⟩ <;> simp at hcs <;> exact ⟨_, _, _, hcs⟩
    have he : ∃ oa on oc, e = .slice oa on oc := by
      rcases Go.Deep.open_slice Try.underlying23 g3 with ⟨hcs, _⟩ | ⟨ad, l, cp, m, n, D, Pl, hcs, _⟩ <;> simp at hcs <;> exact ⟨_, _, _, hcs⟩
    obtain ⟨ga, gn, gc, rfl⟩ := hc
    obtain ⟨oa, on, oc, rfl⟩ := he
    obtain ⟨gs, hgs⟩ := flat_arg (z := 3) Try.underlying22 Try.underlying103 (by kernel_rfl) (fun j hj => by
      rcases (show j = 0 ∨ j = 1 ∨ j = 2 by omega) with rfl | rfl | rfl
      · exact ⟨_, rfl, rfl, c0, Try.underlying3⟩
      · exact ⟨_, rfl, rfl, c0, Try.underlying3⟩
      · exact ⟨_, rfl, rfl, c0, Try.underlying3⟩) g2
    have hos : ∃ os, IntsArg W oa on os := by
      rcases open_ints Try.underlying23 Try.underlying3 (by kernel_rfl) g3 with ⟨hcs, _⟩ | ⟨x, l, c, zs, hcs, _, hl, hm, hz, _, hcell, hwz⟩
      · simp at hcs
        obtain ⟨rfl, rfl, rfl⟩ := hcs
        exact ⟨[], ints_nil W⟩
      · simp at hcs
        obtain ⟨rfl, rfl, rfl⟩ := hcs
        exact ⟨_, ints_of_open hl (by simpa using hz) hm hcell⟩
    obtain ⟨os, hos⟩ := hos
    exact ⟨p, i0, i1, ga, gn, gc, oa, on, oc, gs, os, rfl, hgs, hos⟩
end Go.Proofs.Ytbdccgodamkljaa
