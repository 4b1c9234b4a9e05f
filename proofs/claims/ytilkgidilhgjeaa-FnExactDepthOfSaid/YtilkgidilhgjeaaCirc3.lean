/-
  Circuits in the laws: copies, comparisons, sizes, marks.
-/
import Derived.Test.YtilkgidilhgjeaaCirc2
import Derived.Deep.DeepCutAuto
namespace Go.Proofs.Ytilkgidilhgjeaa
open Go.RowKit
set_option linter.unusedVariables false
set_option linter.unusedSimpArgs false

/-- A circuit that the call owns. -/
def OwnCi (B : Nat) (w : World) (ga : Option Addr) (gn gc : Nat) (oa : Option Addr) (on oc : Nat) (gs os : List Int) : Prop :=
  OwnF 3 87 B w ga gn gc gs ∧ OwnI B w oa on oc os ∧ ∀ k l, rowOf ga gc = some k → rowOf oa oc = some l → k ≠ l
/-- What a call that makes a circuit hands back. -/
def RetC (i0 i1 : Int) (gs os : List Int) (w : World) (e : Ending) (w' : World) : Prop := ∃ ga gn gc oa on oc, e = .returned (circV i0 i1 ga gn gc oa on oc) ∧ OwnCi w.heap.size w' ga gn gc oa on oc gs os ∧ Below w.heap.size w w'
theorem gset1 (w : World) (b o : Nat) (v : Value) : w.grownBy (w.setCell ⟨b, o, none⟩ v) (some b) :=
  ⟨rfl, rfl, rfl, by simp [World.setCell], fun k _ hk => heap_setCell_other w ⟨b, o, none⟩ k v (fun e => hk (by simp [e]))⟩
theorem below_set1 {B : Nat} {w w' : World} (h : Below B w w') (hB : B ≤ w'.heap.size) {b : Nat} (hb : B ≤ b) (o : Nat) (v : Value) : Below B w (w'.setCell ⟨b, o, none⟩ v) :=
  h.grown (gset1 w' b o v) hB fun k hk => by simp at hk; omega
theorem blk_set {w : World} {b : Nat} {cs : Array Value} {t : TypeId} (h : w.heap[b]? = some (.cells cs t (0, 0))) (o : Nat) (v : Value) : (w.setCell ⟨b, o, none⟩ v).heap[b]? = some (.cells (cs.setIfInBounds o v) t (0, 0)) := by
  rw [heap_setCell_same w b o _ _ v h]
theorem blk_other {w : World} {b b' : Nat} (hne : b ≠ b') (o : Nat) (v : Value) : (w.setCell ⟨b', o, none⟩ v).heap[b]? = w.heap[b]? :=
  heap_setCell_other w ⟨b', o, none⟩ b v hne
/-- Cells and freedom of a block. -/
theorem blk_at {w : World} {b : Nat} {cs : Array Value} {t : TypeId} (h : w.heap[b]? = some (.cells cs t (0, 0))) (o : Nat) : w.cell? ⟨b, o, none⟩ = cs[o]? ∧ w.frozen? ⟨b, o, none⟩ = false :=
  ⟨cell_of_row w b o cs t (0, 0) h, frozen_of_row w b o _ _ h⟩
theorem toCircuit_any (w : World) (i0 i1 : Int) (ga oa : Option Addr) (gn gc on oc : Nat) (gs os : List Int) (hg : Flat 3 w w.heap.size ga gn gs) (ho : Ints w w.heap.size oa on os) :
    Calls Try.prog 19 #[circV i0 i1 ga gn gc oa on oc] w (RetC i0 i1 gs os w) := by
  unfold circV
  go_enter Try.func19, Try.ntmps19
  go_wp2_with fail
  have n1 := heap_alloc_new w (.cells #[.int .i64 i0, .int .i64 i1, .slice ga gn gc, .slice oa on oc] 37)
  have b1 : Below w.heap.size w (w.alloc (.cells #[.int .i64 i0, .int .i64 i1, .slice ga gn gc, .slice oa on oc] 37)) := (Below.refl _ _).alloc (Nat.le_refl _) _
  have z1 : (w.alloc (.cells #[.int .i64 i0, .int .i64 i1, .slice ga gn gc, .slice oa on oc] 37)).heap.size = w.heap.size + 1 := by simp
  generalize w.alloc (.cells #[.int .i64 i0, .int .i64 i1, .slice ga gn gc, .slice oa on oc] 37) = v1 at *
  have n2 := heap_alloc_new v1 (.cells #[.int .i64 0, .int .i64 0, .slice none 0 0, .slice none 0 0] 43)
  have b2 : Below v1.heap.size v1 (v1.alloc (.cells #[.int .i64 0, .int .i64 0, .slice none 0 0, .slice none 0 0] 43)) := (Below.refl _ _).alloc (Nat.le_refl _) _
  have z2 : (v1.alloc (.cells #[.int .i64 0, .int .i64 0, .slice none 0 0, .slice none 0 0] 43)).heap.size = v1.heap.size + 1 := by simp
  generalize v1.alloc (.cells #[.int .i64 0, .int .i64 0, .slice none 0 0, .slice none 0 0] 43) = v2 at *
  have n3 := heap_alloc_new v2 (.cells #[.int .i64 i0, .int .i64 i1, .slice none 0 0, .slice none 0 0] 43)
  have b3 : Below v2.heap.size v2 (v2.alloc (.cells #[.int .i64 i0, .int .i64 i1, .slice none 0 0, .slice none 0 0] 43)) := (Below.refl _ _).alloc (Nat.le_refl _) _
  have z3 : (v2.alloc (.cells #[.int .i64 i0, .int .i64 i1, .slice none 0 0, .slice none 0 0] 43)).heap.size = v2.heap.size + 1 := by simp
  generalize v2.alloc (.cells #[.int .i64 i0, .int .i64 i1, .slice none 0 0, .slice none 0 0] 43) = v3 at *
  have hB : Below w.heap.size w v3 := b1.trans ((b2.trans (b3.mono (by omega))).mono (by omega))
  have k1 : v3.heap[w.heap.size]? = some (.cells #[.int .i64 i0, .int .i64 i1, .slice ga gn gc, .slice oa on oc] 37 (0, 0)) := (b3.block _ (by omega)).trans ((b2.block _ (by omega)).trans n1)
  have k2 : v3.heap[w.heap.size + 1]? = some (.cells #[.int .i64 0, .int .i64 0, .slice none 0 0, .slice none 0 0] 43 (0, 0)) := (b3.block _ (by omega)).trans (by rw [← z1]; exact n2)
  have k3 : v3.heap[w.heap.size + 1 + 1]? = some (.cells #[.int .i64 i0, .int .i64 i1, .slice none 0 0, .slice none 0 0] 43 (0, 0)) := by rw [← z1, ← z2]; exact n3
  have z4 : v3.heap.size = w.heap.size + 3 := by omega
  clear n1 n2 n3 b1 b2 b3 z1 z2 z3
  refine (toGateS_any _ _ _ _ _ ((hg.below hB (Nat.le_refl _)).up hB.size)).mono ?_
  rintro e w2 ⟨ga2, gn2, gc2, rfl, hog, hb2⟩
  have hB2 := hB.trans (hb2.mono hB.size)
  have hZ2 := hb2.size
  replace k1 := (hb2.block _ (by omega)).trans k1
  replace k2 := (hb2.block _ (by omega)).trans k2
  replace k3 := (hb2.block _ (by omega)).trans k3
  have x1 := (blk_at k1 3).1
  have x2 := (blk_at k3 2).1
  have x3 := (blk_at k3 2).2
  simp at x1 x2
  have k1' := (blk_other (b := w.heap.size) (b' := w.heap.size + 1 + 1) (w := w2) (by omega) 2 (.slice ga2 gn2 gc2)).trans k1
  have k2' := (blk_other (b := w.heap.size + 1) (b' := w.heap.size + 1 + 1) (w := w2) (by omega) 2 (.slice ga2 gn2 gc2)).trans k2
  have k3' := blk_set k3 2 (.slice ga2 gn2 gc2)
  have hB3 : Below w.heap.size w (w2.setCell ⟨w.heap.size + 1 + 1, 2, none⟩ (.slice ga2 gn2 gc2)) := below_set1 hB2 hB2.size (by omega) _ _
  have hZ3 : (w2.setCell ⟨w.heap.size + 1 + 1, 2, none⟩ (.slice ga2 gn2 gc2)).heap.size = w2.heap.size := by simp [World.setCell]
  have hrg := hog.rowLt
  have hog3 := hog.other (gset1 w2 (w.heap.size + 1 + 1) 2 (.slice ga2 gn2 gc2)) (fun p q hp hq => by have := hrg p hp; simp at hq; omega)
  clear k1 k2 k3
  go_wp2_with fail
  generalize w2.setCell ⟨w.heap.size + 1 + 1, 2, none⟩ (.slice ga2 gn2 gc2) = w3 at *
  refine (toIntS_any _ _ _ _ _ ((ho.below hB3 (Nat.le_refl _)).up hB3.size)).mono ?_
  rintro e w4 ⟨oa2, on2, oc2, rfl, hoo, hb4⟩
  have hB4 := hB3.trans (hb4.mono hB3.size)
  have hZ4 := hb4.size
  replace k1' := (hb4.block _ (by omega)).trans k1'
  replace k2' := (hb4.block _ (by omega)).trans k2'
  replace k3' := (hb4.block _ (by omega)).trans k3'
  have hog4 := hog3.below hb4 (Nat.le_refl _)
  have hro := hoo.rowLt
  simp at k3'
  have f0 := (blk_at k3' 0).1
  have f1 := (blk_at k3' 1).1
  have f2 := (blk_at k3' 2).1
  have f3 := (blk_at k3' 3).1
  have e3 := (blk_at k3' 3).2
  simp at f0 f1 f2 f3
  have k2' := (blk_other (b := w.heap.size + 1) (b' := w.heap.size + 1 + 1) (w := w4) (by omega) 3 (.slice oa2 on2 oc2)).trans k2'
  have k3' := blk_set k3' 3 (.slice oa2 on2 oc2)
  simp at k3'
  have hB5 : Below w.heap.size w (w4.setCell ⟨w.heap.size + 1 + 1, 3, none⟩ (.slice oa2 on2 oc2)) := below_set1 hB4 hB4.size (by omega) _ _
  have hZ5 : (w4.setCell ⟨w.heap.size + 1 + 1, 3, none⟩ (.slice oa2 on2 oc2)).heap.size = w4.heap.size := by simp [World.setCell]
  have hog5 := hog4.other (gset1 w4 (w.heap.size + 1 + 1) 3 (.slice oa2 on2 oc2)) (fun p q hp hq => by have := hrg p hp; simp at hq; omega)
  have hoo5 := hoo.other (gset1 w4 (w.heap.size + 1 + 1) 3 (.slice oa2 on2 oc2)) (fun p q hp hq => by have := hro p hp; simp at hq; omega)
  have g0 := (blk_at k3' 0).1
  have g1 := (blk_at k3' 1).1
  have g2 := (blk_at k3' 2).1
  have g3 := (blk_at k3' 3).1
  have p0 := (blk_at k2' 0).1
  have p1 := (blk_at k2' 1).1
  have p2 := (blk_at k2' 2).1
  have p3 := (blk_at k2' 3).1
  have r0 := (blk_at k2' 0).2
  have r1 := (blk_at k2' 1).2
  have r2 := (blk_at k2' 2).2
  have r3 := (blk_at k2' 3).2
  simp at g0 g1 g2 g3 p0 p1 p2 p3
  go_upto_region 6 with (fail)
  generalize w4.setCell ⟨w.heap.size + 1 + 1, 3, none⟩ (.slice oa2 on2 oc2) = w5 at *
  clear f0 f1 f2 f3 e3
  go_wp2_with fail
  have hn1 : ∀ p q, rowOf ga2 gc2 = some p → some (w.heap.size + 1) = some q → p ≠ q := fun p q hp hq => by have := hrg p hp; simp at hq; omega
  have hn2 : ∀ p q, rowOf oa2 oc2 = some p → some (w.heap.size + 1) = some q → p ≠ q := fun p q hp hq => by have := hro p hp; simp at hq; omega
  have q3 := blk_set (blk_set (blk_set (blk_set k2' 0 (.int .i64 i0)) 1 (.int .i64 i1)) 2 (.slice ga2 gn2 gc2)) 3 (.slice oa2 on2 oc2)
  simp at q3
  have s0 := (blk_at q3 0).1
  have s1 := (blk_at q3 1).1
  have s2 := (blk_at q3 2).1
  have s3 := (blk_at q3 3).1
  simp at s0 s1 s2 s3
  have E1 := (((hog5.other (gset1 w5 (w.heap.size + 1) 0 (.int .i64 i0)) hn1).other (gset1 _ (w.heap.size + 1) 1 (.int .i64 i1)) hn1).other (gset1 _ (w.heap.size + 1) 2 (.slice ga2 gn2 gc2)) hn1).other (gset1 _ (w.heap.size + 1) 3 (.slice oa2 on2 oc2)) hn1
  have E2 := (((hoo5.other (gset1 w5 (w.heap.size + 1) 0 (.int .i64 i0)) hn2).other (gset1 _ (w.heap.size + 1) 1 (.int .i64 i1)) hn2).other (gset1 _ (w.heap.size + 1) 2 (.slice ga2 gn2 gc2)) hn2).other (gset1 _ (w.heap.size + 1) 3 (.slice oa2 on2 oc2)) hn2
  have E3 : Below w.heap.size w ((((w5.setCell ⟨w.heap.size + 1, 0, none⟩ (.int .i64 i0)).setCell ⟨w.heap.size + 1, 1, none⟩ (.int .i64 i1)).setCell ⟨w.heap.size + 1, 2, none⟩ (.slice ga2 gn2 gc2)).setCell ⟨w.heap.size + 1, 3, none⟩ (.slice oa2 on2 oc2)) := by
    refine below_set1 (below_set1 (below_set1 (below_set1 hB5 hB5.size (by omega) _ _) ?_ (by omega) _ _) ?_ (by omega) _ _) ?_ (by omega) _ _ <;> simp [World.setCell] <;> omega
  clear g0 g1 g2 g3 p0 p1 p2 p3 r0 r1 r2 r3 k1' k2' k3' q3
  generalize ((((w5.setCell ⟨w.heap.size + 1, 0, none⟩ (.int .i64 i0)).setCell ⟨w.heap.size + 1, 1, none⟩ (.int .i64 i1)).setCell ⟨w.heap.size + 1, 2, none⟩ (.slice ga2 gn2 gc2)).setCell ⟨w.heap.size + 1, 3, none⟩ (.slice oa2 on2 oc2)) = w6 at *
  refine bodyPost_ret (v := circV i0 i1 ga2 gn2 gc2 oa2 on2 oc2) (by simp [results, Try.results19, circV, go_sem, s0, s1, s2, s3]) rfl ⟨_, _, _, _, _, _, rfl, ⟨E1.up (by omega), E2.up (by omega), fun p q hp hq => ?_⟩, E3⟩
  have := hrg p hp
  have := hro q hq
  omega
theorem szIntS_any (w : World) (ao : Option Addr) (n c : Nat) (left : Int) (h0 : 0 ≤ left) (h1 : left ≤ 1048576) (hn : n ≤ maxLen) : Calls Try.prog 56 #[.slice ao n c, .int .i64 left] w fun e w' => e = .returned (.int .i64 (szF left n)) ∧ w = w' := by
  unfold maxLen at hn
  by_cases hlt : left < n
  · go_enter Try.func56, Try.ntmps56
    go_wp2_with fail
    go_ret
    exact ⟨ret_int (by rw [szF, if_pos (by omega)]), rfl⟩
  · go_enter Try.func56, Try.ntmps56
    go_wp2_with fail
    go_ret
    exact ⟨ret_int (by rw [szF, if_neg (by omega)]), rfl⟩
/-- What is left behind a circuit. -/
def szC (left gn on : Int) : Int := if left - gn < 0 then -1 else if left - gn - on < 0 then -1 else left - gn - on
theorem szCircuit_any (w : World) (i0 i1 : Int) (ga oa : Option Addr) (gn gc on oc : Nat) (left : Int) (h0 : 0 ≤ left) (h1 : left ≤ 1048576) (hgn : gn ≤ maxLen) (hon : on ≤ maxLen) :
    Calls Try.prog 17 #[circV i0 i1 ga gn gc oa on oc, .int .i64 left] w (RetN (szC left gn on) w) := by
  have hb0 : Below w.heap.size w (w.alloc (.cells #[.int .i64 i0, .int .i64 i1, .slice ga gn gc, .slice oa on oc] 37)) := (Below.refl _ _).alloc (Nat.le_refl _) _
  have HGN := Lib.hid hgn
  have HON := Lib.hid hon
  unfold maxLen at hgn hon
  unfold circV
  by_cases hl1 : left - gn < 0
  · go_enter Try.func17, Try.ntmps17
    go_wp2_with (first | (go_at_call 55; refine (szGateS_any _ _ _ _ _ h0 h1 HGN.out).mono ?_; rintro e w' ⟨rfl, rfl⟩; rw [show szF left gn = -1 from by rw [szF, if_pos (by omega)]]))
    go_ret
    exact ⟨ret_int (by rw [szC, if_pos (by omega)]), hb0⟩
  · by_cases hl2 : left - gn - on < 0
    · go_enter Try.func17, Try.ntmps17
      go_wp2_with (first | (go_at_call 55; refine (szGateS_any _ _ _ _ _ h0 h1 HGN.out).mono ?_; rintro e w' ⟨rfl, rfl⟩; rw [show szF left gn = left - gn from by rw [szF, if_neg (by omega)]]) | (go_at_call 56; refine (szIntS_any _ _ _ _ _ (by omega) (by omega) HON.out).mono ?_; rintro e w' ⟨rfl, rfl⟩; rw [show szF (left - gn) on = -1 from by rw [szF, if_pos (by omega)]]))
      go_ret
      exact ⟨ret_int (by rw [szC, if_neg (by omega), if_pos (by omega)]), hb0⟩
    · go_enter Try.func17, Try.ntmps17
      go_wp2_with (first | (go_at_call 55; refine (szGateS_any _ _ _ _ _ h0 h1 HGN.out).mono ?_; rintro e w' ⟨rfl, rfl⟩; rw [show szF left gn = left - gn from by rw [szF, if_neg (by omega)]]) | (go_at_call 56; refine (szIntS_any _ _ _ _ _ (by omega) (by omega) HON.out).mono ?_; rintro e w' ⟨rfl, rfl⟩; rw [show szF (left - gn) on = left - gn - on from by rw [szF, if_neg (by omega)]]))
      go_ret
      exact ⟨ret_int (by rw [szC, if_neg (by omega), if_neg (by omega)]), hb0⟩
/-- Circuits are equal. -/
def eqCB (i0 i1 : Int) (gs os : List Int) (j0 j1 : Int) (gt ot : List Int) : Bool := decide (i0 = j0) && (decide (i1 = j1) && (eqB gs gt && eqB os ot))
theorem eqCB_self (i0 i1 : Int) (gs os : List Int) : eqCB i0 i1 gs os i0 i1 gs os = true := by simp [eqCB, eqB_self]
theorem eqCircuit_any (w : World) (i0 i1 j0 j1 : Int) (ga oa gb ob : Option Addr) (gn gc on oc gm gd om od : Nat) (gs os gt ot : List Int) (hg : Flat 3 w w.heap.size ga gn gs) (ho : Ints w w.heap.size oa on os) (hg2 : Flat 3 w w.heap.size gb gm gt) (ho2 : Ints w w.heap.size ob om ot) :
    Calls Try.prog 21 #[circV i0 i1 ga gn gc oa on oc, circV j0 j1 gb gm gd ob om od] w (RetB (eqCB i0 i1 gs os j0 j1 gt ot) w) := by
  have n1 := boxC_new w i0 i1 ga gn gc oa on oc 43
  have z1 : (w.alloc (.cells #[.int .i64 i0, .int .i64 i1, .slice ga gn gc, .slice oa on oc] 43)).heap.size = w.heap.size + 1 := by simp
  have b1 : Below w.heap.size w (w.alloc (.cells #[.int .i64 i0, .int .i64 i1, .slice ga gn gc, .slice oa on oc] 43)) := (Below.refl _ _).alloc (Nat.le_refl _) _
  have hb0 : Below w.heap.size w ((w.alloc (.cells #[.int .i64 i0, .int .i64 i1, .slice ga gn gc, .slice oa on oc] 43)).alloc (.cells #[.int .i64 j0, .int .i64 j1, .slice gb gm gd, .slice ob om od] 43)) := ((Below.refl _ _).alloc (Nat.le_refl _) _).alloc (by simp) _
  unfold circV
  by_cases e0 : i0 = j0
  rotate_left
  · have e0' : (i0 != j0) = true := by simp [e0]
    clear n1 z1 b1
    go_enter Try.func21, Try.ntmps21
    go_wp2_with fail
    go_ret
    exact ⟨ret_bool (by simp [eqCB, e0]), hb0⟩
  by_cases e1 : i1 = j1
  rotate_left
  · have e1' : (i1 != j1) = true := by simp [e1]
    subst e0
    clear n1 z1 b1
    go_enter Try.func21, Try.ntmps21
    go_wp2_with fail
    go_ret
    exact ⟨ret_bool (by simp [eqCB, e1]), hb0⟩
  subst e0
  subst e1
  have HE : Hid (eqCB i0 i1 gs os i0 i1 gt ot = (eqB gs gt && eqB os ot)) := by show _ = _; simp [eqCB]
  go_enter Try.func21, Try.ntmps21
  go_wp2_with fail
  have n2 := boxC_new (w.alloc (.cells #[.int .i64 i0, .int .i64 i1, .slice ga gn gc, .slice oa on oc] 43)) i0 i1 gb gm gd ob om od 43
  rw [z1] at n2
  have n1' := n1.below ((Below.refl _ (w.alloc (.cells #[.int .i64 i0, .int .i64 i1, .slice ga gn gc, .slice oa on oc] 43))).alloc (Nat.le_refl _) (.cells #[.int .i64 i0, .int .i64 i1, .slice gb gm gd, .slice ob om od] 43)) (by rw [z1]; omega)
  have z2 : ((w.alloc (.cells #[.int .i64 i0, .int .i64 i1, .slice ga gn gc, .slice oa on oc] 43)).alloc (.cells #[.int .i64 i0, .int .i64 i1, .slice gb gm gd, .slice ob om od] 43)).heap.size = w.heap.size + 2 := by simp
  clear n1 b1 z1
  generalize (w.alloc (.cells #[.int .i64 i0, .int .i64 i1, .slice ga gn gc, .slice oa on oc] 43)).alloc (.cells #[.int .i64 i0, .int .i64 i1, .slice gb gm gd, .slice ob om od] 43) = w2 at *
  refine (eqGateS_any _ _ _ _ _ _ _ _ _ _ _ ((hg.below hb0 (Nat.le_refl _)).up hb0.size) ((hg2.below hb0 (Nat.le_refl _)).up hb0.size) (Nat.le_refl _) (Nat.le_refl _)).mono ?_
  rintro e w3 ⟨rfl, hb3⟩
  have hbw := hb0.trans (hb3.mono hb0.size)
  obtain ⟨_, _, _, d3⟩ := n1'.below hb3 (by omega)
  obtain ⟨_, _, _, f3⟩ := n2.below hb3 (by omega)
  cases hq : eqB gs gt
  · go_wp2_with fail
    go_ret
    exact ⟨ret_bool (by rw [HE.out, hq]; rfl), hbw⟩
  · go_wp2_with fail
    refine (eqIntS_any _ _ _ _ _ _ _ _ _ _ _ ((ho.below hbw (Nat.le_refl _)).up hbw.size) ((ho2.below hbw (Nat.le_refl _)).up hbw.size) (Nat.le_refl _) (Nat.le_refl _)).mono ?_
    rintro e w4 ⟨rfl, hb4⟩
    have hbw2 := hbw.trans (hb4.mono hbw.size)
    cases hq2 : eqB os ot
    · go_wp2_with fail
      go_ret
      exact ⟨ret_bool (by rw [HE.out, hq, hq2]; rfl), hbw2⟩
    · go_wp2_with fail
      go_ret
      exact ⟨ret_bool (by rw [HE.out, hq, hq2]; rfl), hbw2⟩
/-- What marking a circuit that the call owns leaves. -/
def Marked (k0 : Int) (B : Nat) (ga : Option Addr) (gn gc : Nat) (oa : Option Addr) (on oc : Nat) (w : World) (e : Ending) (w' : World) : Prop :=
  e = .returned (.int .i64 (k0 + gn * 3 + on)) ∧ OwnCi B w' ga gn gc oa on oc (marks k0 (gn * 3)) (marks (k0 + gn * 3) on) ∧ ∃ wm, w.grownBy wm (rowOf ga gc) ∧ wm.grownBy w' (rowOf oa oc)
theorem gfirst {a b c : World} {r : Option Nat} (h : Below a.heap.size a b) (k : b.grownBy c r) : a.grownBy c r :=
  ⟨k.os.trans h.os, k.tape.trans h.tape, k.output.trans h.output, Nat.le_trans h.size k.size, fun i hi hne => (k.block i (Nat.lt_of_lt_of_le hi h.size) hne).trans (h.block i hi)⟩
section
variable {B C : Nat} {w w' : World} {ga oa : Option Addr} {gn gc on oc : Nat} {gs os : List Int}
theorem OwnCi.below (h : OwnCi B w ga gn gc oa on oc gs os) (hb : Below C w w') (hC : w.heap.size ≤ C) : OwnCi B w' ga gn gc oa on oc gs os := ⟨h.1.below hb hC, h.2.1.below hb hC, h.2.2⟩
theorem OwnCi.up (h : OwnCi B w ga gn gc oa on oc gs os) (hC : C ≤ B) : OwnCi C w ga gn gc oa on oc gs os := ⟨h.1.up hC, h.2.1.up hC, h.2.2⟩
theorem OwnCi.other {row : Option Nat} (h : OwnCi B w ga gn gc oa on oc gs os) (hg : w.grownBy w' row) (h1 : ∀ k l, rowOf ga gc = some k → row = some l → k ≠ l) (h2 : ∀ k l, rowOf oa oc = some k → row = some l → k ≠ l) : OwnCi B w' ga gn gc oa on oc gs os :=
  ⟨h.1.other hg h1, h.2.1.other hg h2, h.2.2⟩
theorem OwnCi.nil (B : Nat) (w : World) (ga oa : Option Addr) : OwnCi B w ga 0 0 oa 0 0 [] [] := ⟨OwnF.nil _ _ _, OwnI.nil _ _ _, by simp [rowOf]⟩
end
theorem BoxC.other {w w' : World} {b : Nat} {i0 i1 : Int} {ga oa : Option Addr} {gn gc on oc : Nat} {row : Option Nat} (h : BoxC w b i0 i1 ga gn gc oa on oc) (hg : w.grownBy w' row) (hb : b < w.heap.size) (hne : ∀ l, row = some l → b ≠ l) : BoxC w' b i0 i1 ga gn gc oa on oc := by
  have hk := hg.block b hb (fun e => hne b e.symm rfl)
  obtain ⟨h0, h1, h2, h3⟩ := h
  refine ⟨?_, ?_, ?_, ?_⟩
  · rw [← h0]; simp only [World.cell?, hk]
  · rw [← h1]; simp only [World.cell?, hk]
  · rw [← h2]; simp only [World.cell?, hk]
  · rw [← h3]; simp only [World.cell?, hk]
/-- A circuit (and a bool) back. -/
def RetCB (r : Int × Int × List Int × List Int × Bool) (w : World) (e : Ending) (w' : World) : Prop := ∃ ga gn gc oa on oc, e = .returned (.tuple #[circV r.1 r.2.1 ga gn gc oa on oc, .bool r.2.2.2.2]) ∧ OwnCi w.heap.size w' ga gn gc oa on oc r.2.2.1 r.2.2.2.1 ∧ Below w.heap.size w w'
set_option maxRecDepth 100000 in
open Go.ChangeShapes Go.WideShapes in
/-- A circuit among the arguments of a law. -/
theorem arg_Circuit {H : Type} {enc : TypeId × Value → H} {W : World} {base : Nat} {v : Value} {d : DataW H} {p : List MemPlace} (hval : Value.okWide Try.prog W .any base 37 v) (h : DataW.Trod enc Try.prog W 0 (fun _ => true) true 37 v d p) :
    ∃ i0 i1 ga gn gc oa on oc gs os, v = circV i0 i1 ga gn gc oa on oc ∧ FlatArg 3 W ga gn gs ∧ IntsArg W oa on os := by
  obtain ⟨cs, rfl, hsz⟩ := okWide_struct Try.underlying37 hval
  rw [show Try.prog.cellsOf 37 = 4 by kernel_rfl] at hsz
  obtain ⟨fuel, hf⟩ := h
  obtain ⟨xs, n, _, _, _, hxl, hg⟩ := DataW.trod_struct Try.underlying37 hf
  match cs, hsz with
  | ⟨[a, b, c, e]⟩, _ =>
    have g0 := hg 0 _ rfl
    have g1 := hg 1 _ rfl
    have g2 := hg 2 _ rfl
    have g3 := hg 3 _ rfl
    have c0 : Try.prog.cellsOf 3 = 1 := by kernel_rfl
    have c2 : Try.prog.cellsOf 34 = 1 := by kernel_rfl
    have c3 : Try.prog.cellsOf 35 = 1 := by kernel_rfl
    simp [Value.cells, c0, c2, c3, hxl] at g0 g1 g2 g3
    obtain ⟨i0, h0, _⟩ := DataW.trod_int Try.underlying3 g0
    obtain ⟨i1, h1, _⟩ := DataW.trod_int Try.underlying3 g1
    simp at h0 h1
    subst h0
    subst h1
    have hc : ∃ ga gn gc, c = .slice ga gn gc := by
      rcases Go.Deep.open_slice Try.underlying34 g2 with ⟨hcs, _⟩ | ⟨ad, l, cp, m, n, D, Pl, hcs, _⟩ <;> simp at hcs <;> exact ⟨_, _, _, hcs⟩
    have he : ∃ oa on oc, e = .slice oa on oc := by
      rcases Go.Deep.open_slice Try.underlying35 g3 with ⟨hcs, _⟩ | ⟨ad, l, cp, m, n, D, Pl, hcs, _⟩ <;> simp at hcs <;> exact ⟨_, _, _, hcs⟩
    obtain ⟨ga, gn, gc, rfl⟩ := hc
    obtain ⟨oa, on, oc, rfl⟩ := he
    obtain ⟨gs, hgs⟩ := flat_arg (z := 3) Try.underlying34 Try.underlying122 (by kernel_rfl) (fun j hj => by
      rcases (show j = 0 ∨ j = 1 ∨ j = 2 by omega) with rfl | rfl | rfl
      · exact ⟨_, rfl, rfl, c0, Try.underlying3⟩
      · exact ⟨_, rfl, rfl, c0, Try.underlying3⟩
      · exact ⟨_, rfl, rfl, c0, Try.underlying3⟩) g2
    have hos : ∃ os, IntsArg W oa on os := by
      rcases open_ints Try.underlying35 Try.underlying3 (by kernel_rfl) g3 with ⟨hcs, _⟩ | ⟨x, l, c, zs, hcs, _, hl, hm, hz, _, hcell, hwz⟩
      · simp at hcs
        obtain ⟨rfl, rfl, rfl⟩ := hcs
        exact ⟨[], ints_nil W⟩
      · simp at hcs
        obtain ⟨rfl, rfl, rfl⟩ := hcs
        exact ⟨_, ints_of_open hl (by simpa using hz) hm hcell⟩
    obtain ⟨os, hos⟩ := hos
    exact ⟨i0, i1, ga, gn, gc, oa, on, oc, gs, os, rfl, hgs, hos⟩
end Go.Proofs.Ytilkgidilhgjeaa
