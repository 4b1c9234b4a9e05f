/-
  Circuits: the numbers of inputs and wires; which gates and which circuits are valid.
-/
import Derived.Test.YtilkgidilhgjeaaOpen
import Derived.Test.YtilkgidilhgjeaaAll
import Derived.Test.YtilkgidilhgjeaaBits2
import Derived.Deep.RegionHeld3
namespace Go.Proofs.Ytilkgidilhgjeaa
open Go.RowKit
set_option linter.unusedVariables false
set_option linter.unusedSimpArgs false

/-- A circuit as a value. -/
def circV (i0 i1 : Int) (ga : Option Addr) (gn gc : Nat) (oa : Option Addr) (on oc : Nat) : Value := .agg #[.int .i64 i0, .int .i64 i1, .slice ga gn gc, .slice oa on oc]
/-- The four cells of a circuit in a box. -/
def BoxC (w : World) (b : Nat) (i0 i1 : Int) (ga : Option Addr) (gn gc : Nat) (oa : Option Addr) (on oc : Nat) : Prop :=
  w.cell? ⟨b, 0, none⟩ = some (.int .i64 i0) ∧ w.cell? ⟨b, 1, none⟩ = some (.int .i64 i1) ∧ w.cell? ⟨b, 2, none⟩ = some (.slice ga gn gc) ∧ w.cell? ⟨b, 3, none⟩ = some (.slice oa on oc)
theorem boxC_new (w : World) (i0 i1 : Int) (ga : Option Addr) (gn gc : Nat) (oa : Option Addr) (on oc : Nat) (t : TypeId) :
    BoxC (w.alloc (.cells #[.int .i64 i0, .int .i64 i1, .slice ga gn gc, .slice oa on oc] t)) w.heap.size i0 i1 ga gn gc oa on oc := by
  have h := heap_alloc_new w (.cells #[.int .i64 i0, .int .i64 i1, .slice ga gn gc, .slice oa on oc] t)
  refine ⟨?_, ?_, ?_, ?_⟩
  · rw [cell_of_row _ _ 0 _ _ (0, 0) h]; rfl
  · rw [cell_of_row _ _ 1 _ _ (0, 0) h]; rfl
  · rw [cell_of_row _ _ 2 _ _ (0, 0) h]; rfl
  · rw [cell_of_row _ _ 3 _ _ (0, 0) h]; rfl
theorem BoxC.below {w w' : World} {b C : Nat} {i0 i1 : Int} {ga oa : Option Addr} {gn gc on oc : Nat} (h : BoxC w b i0 i1 ga gn gc oa on oc) (hb : Below C w w') (hC : b < C) : BoxC w' b i0 i1 ga gn gc oa on oc :=
  ⟨(hb.cell (p := ⟨b, 0, none⟩) hC).trans h.1, (hb.cell (p := ⟨b, 1, none⟩) hC).trans h.2.1, (hb.cell (p := ⟨b, 2, none⟩) hC).trans h.2.2.1, (hb.cell (p := ⟨b, 3, none⟩) hC).trans h.2.2.2⟩

theorem inputs_any (w : World) (i0 i1 : Int) (ga oa : Option Addr) (gn gc on oc : Nat) (h0 : inB i0 0 20 = true) (h1 : inB i1 0 20 = true) :
    Calls Try.prog 63 #[circV i0 i1 ga gn gc oa on oc] w (RetN (i0 + i1) w) := by
  have h0 := inB_iff.1 h0
  have h1 := inB_iff.1 h1
  unfold circV
  go_enter Try.func63, Try.ntmps63
  go_wp2_with fail
  go_ret
  exact ⟨rfl, (Below.refl _ _).alloc (Nat.le_refl _) _⟩
theorem ciInputs_any (w : World) (i0 i1 : Int) (ga oa : Option Addr) (gn gc on oc : Nat) (h0 : inB i0 0 20 = true) (h1 : inB i1 0 20 = true) :
    Calls Try.prog 96 #[circV i0 i1 ga gn gc oa on oc] w (RetN (i0 + i1) w) := by
  have h0 := inB_iff.1 h0
  have h1 := inB_iff.1 h1
  unfold circV
  go_enter Try.func96, Try.ntmps96
  go_wp2_with fail
  go_ret
  exact ⟨rfl, (Below.refl _ _).alloc (Nat.le_refl _) _⟩
theorem wires_any (w : World) (i0 i1 : Int) (ga oa : Option Addr) (gn gc on oc : Nat) (h0 : inB i0 0 20 = true) (h1 : inB i1 0 20 = true) (hn : gn ≤ 1000000) :
    Calls Try.prog 62 #[circV i0 i1 ga gn gc oa on oc] w (RetN (i0 + i1 + gn) w) := by
  have H0 := Lib.hid h0
  have H1 := Lib.hid h1
  have h0 := inB_iff.1 h0
  have h1 := inB_iff.1 h1
  have hb0 : Below w.heap.size w (w.alloc (.cells #[.int .i64 i0, .int .i64 i1, .slice ga gn gc, .slice oa on oc] 43)) := (Below.refl _ _).alloc (Nat.le_refl _) _
  have hbx := boxC_new w i0 i1 ga gn gc oa on oc 43
  have hsz : w.heap.size < (w.alloc (.cells #[.int .i64 i0, .int .i64 i1, .slice ga gn gc, .slice oa on oc] 43)).heap.size := by simp
  unfold circV
  go_enter Try.func62, Try.ntmps62
  go_wp2_with fail
  generalize w.alloc (.cells #[.int .i64 i0, .int .i64 i1, .slice ga gn gc, .slice oa on oc] 43) = w1 at *
  obtain ⟨c0, c1, c2, c3⟩ := hbx
  have hS : ∀ W, Below w1.heap.size w1 W → W.cell? ⟨w.heap.size, 0, none⟩ = some (.int .i64 i0) ∧ W.cell? ⟨w.heap.size, 1, none⟩ = some (.int .i64 i1) ∧ W.cell? ⟨w.heap.size, 2, none⟩ = some (.slice ga gn gc) ∧ W.cell? ⟨w.heap.size, 3, none⟩ = some (.slice oa on oc) ∧ Below w1.heap.size w1 W :=
    fun W h => ⟨(h.cell (p := ⟨_, 0, none⟩) hsz).trans c0, (h.cell (p := ⟨_, 1, none⟩) hsz).trans c1, (h.cell (p := ⟨_, 2, none⟩) hsz).trans c2, (h.cell (p := ⟨_, 3, none⟩) hsz).trans c3, h⟩
  have hS2 : ∀ W W', (W.cell? ⟨w.heap.size, 0, none⟩ = some (.int .i64 i0) ∧ W.cell? ⟨w.heap.size, 1, none⟩ = some (.int .i64 i1) ∧ W.cell? ⟨w.heap.size, 2, none⟩ = some (.slice ga gn gc) ∧ W.cell? ⟨w.heap.size, 3, none⟩ = some (.slice oa on oc) ∧ Below w1.heap.size w1 W) → Below W.heap.size W W' → _ :=
    fun W W' h hb => hS W' (h.2.2.2.2.trans (hb.mono h.2.2.2.2.size))
  have HS := Lib.hid hS
  have HS2 := Lib.hid hS2
  clear hS hS2
  go_region_held3 (fun w' => w'.cell? ⟨w.heap.size, 0, none⟩ = some (.int .i64 i0) ∧ w'.cell? ⟨w.heap.size, 1, none⟩ = some (.int .i64 i1) ∧ w'.cell? ⟨w.heap.size, 2, none⟩ = some (.slice ga gn gc) ∧ w'.cell? ⟨w.heap.size, 3, none⟩ = some (.slice oa on oc) ∧ Below w1.heap.size w1 w') (first | exact HS.out _ (bdrewN (Below.refl _ _) 1) | exact HS2.out _ _ (by assumption) hb')
    (first | (go_at_call 63; refine (inputs_any _ _ _ _ _ _ _ _ _ H0.out H1.out).mono ?_; rintro e w' ⟨rfl, hb'⟩))
  all_goals
    have hB := hb0.trans (((bdrewN (Below.refl _ _) 1).trans (hb'.mono (Nat.le_refl _))).mono hb0.size)
    go_wp2_with fail
    go_ret
    exact ⟨ret_int (by rw [IntKind.wrap_i64]; omega), hB⟩
theorem ciWires_any (w : World) (i0 i1 : Int) (ga oa : Option Addr) (gn gc on oc : Nat) (h0 : inB i0 0 20 = true) (h1 : inB i1 0 20 = true) (hn : gn ≤ 1000000) :
    Calls Try.prog 97 #[circV i0 i1 ga gn gc oa on oc] w (RetN (i0 + i1 + gn) w) := by
  have H0 := Lib.hid h0
  have H1 := Lib.hid h1
  have h0 := inB_iff.1 h0
  have h1 := inB_iff.1 h1
  have hb0 : Below w.heap.size w (w.alloc (.cells #[.int .i64 i0, .int .i64 i1, .slice ga gn gc, .slice oa on oc] 43)) := (Below.refl _ _).alloc (Nat.le_refl _) _
  have hbx := boxC_new w i0 i1 ga gn gc oa on oc 43
  have hsz : w.heap.size < (w.alloc (.cells #[.int .i64 i0, .int .i64 i1, .slice ga gn gc, .slice oa on oc] 43)).heap.size := by simp
  unfold circV
  go_enter Try.func97, Try.ntmps97
  go_wp2_with fail
  generalize w.alloc (.cells #[.int .i64 i0, .int .i64 i1, .slice ga gn gc, .slice oa on oc] 43) = w1 at *
  obtain ⟨c0, c1, c2, c3⟩ := hbx
  have hS : ∀ W, Below w1.heap.size w1 W → W.cell? ⟨w.heap.size, 0, none⟩ = some (.int .i64 i0) ∧ W.cell? ⟨w.heap.size, 1, none⟩ = some (.int .i64 i1) ∧ W.cell? ⟨w.heap.size, 2, none⟩ = some (.slice ga gn gc) ∧ W.cell? ⟨w.heap.size, 3, none⟩ = some (.slice oa on oc) ∧ Below w1.heap.size w1 W :=
    fun W h => ⟨(h.cell (p := ⟨_, 0, none⟩) hsz).trans c0, (h.cell (p := ⟨_, 1, none⟩) hsz).trans c1, (h.cell (p := ⟨_, 2, none⟩) hsz).trans c2, (h.cell (p := ⟨_, 3, none⟩) hsz).trans c3, h⟩
  have hS2 : ∀ W W', (W.cell? ⟨w.heap.size, 0, none⟩ = some (.int .i64 i0) ∧ W.cell? ⟨w.heap.size, 1, none⟩ = some (.int .i64 i1) ∧ W.cell? ⟨w.heap.size, 2, none⟩ = some (.slice ga gn gc) ∧ W.cell? ⟨w.heap.size, 3, none⟩ = some (.slice oa on oc) ∧ Below w1.heap.size w1 W) → Below W.heap.size W W' → _ :=
    fun W W' h hb => hS W' (h.2.2.2.2.trans (hb.mono h.2.2.2.2.size))
  have HS := Lib.hid hS
  have HS2 := Lib.hid hS2
  clear hS hS2
  go_region_held3 (fun w' => w'.cell? ⟨w.heap.size, 0, none⟩ = some (.int .i64 i0) ∧ w'.cell? ⟨w.heap.size, 1, none⟩ = some (.int .i64 i1) ∧ w'.cell? ⟨w.heap.size, 2, none⟩ = some (.slice ga gn gc) ∧ w'.cell? ⟨w.heap.size, 3, none⟩ = some (.slice oa on oc) ∧ Below w1.heap.size w1 w') (first | exact HS.out _ (bdrewN (Below.refl _ _) 1) | exact HS2.out _ _ (by assumption) hb')
    (first | (go_at_call 96; refine (ciInputs_any _ _ _ _ _ _ _ _ _ H0.out H1.out).mono ?_; rintro e w' ⟨rfl, hb'⟩))
  all_goals
    have hB := hb0.trans (((bdrewN (Below.refl _ _) 1).trans (hb'.mono (Nat.le_refl _))).mono hb0.size)
    go_wp2_with fail
    go_ret
    exact ⟨ret_int (by rw [IntKind.wrap_i64]; omega), hB⟩
theorem gateOk_any (w : World) (k a b own : Int) (h0 : 0 ≤ own) (h1 : own ≤ 1000000) :
    Calls Try.prog 100 #[.agg #[.int .i64 k, .int .i64 a, .int .i64 b], .int .i64 own] w (RetB (gateB own (k, a, b)) w) := by
  have hb0 : Below w.heap.size w (w.alloc (.cells #[.int .i64 k, .int .i64 a, .int .i64 b] 87)) := (Below.refl _ _).alloc (Nat.le_refl _) _
  by_cases k0 : k = 0
  · subst k0
    cases ha : inB a 0 (own - 1)
    · go_enter Try.func100, Try.ntmps100
      go_wp2_with (go_at_call 71; refine (within_any _ _ _ _).mono ?_; rintro e w' ⟨rfl, rfl⟩; rw [ha])
      go_ret
      exact ⟨ret_bool (by simp [gateB, ha]), hb0⟩
    · go_enter Try.func100, Try.ntmps100
      go_wp2_with (go_at_call 71; refine (within_any _ _ _ _).mono ?_; rintro e w' ⟨rfl, rfl⟩; first | rw [ha] | skip)
      go_ret
      exact ⟨ret_bool (by simp [gateB, ha]), hb0⟩
  by_cases k1 : k = 1
  · subst k1
    cases ha : inB a 0 (own - 1)
    · go_enter Try.func100, Try.ntmps100
      go_wp2_with (go_at_call 71; refine (within_any _ _ _ _).mono ?_; rintro e w' ⟨rfl, rfl⟩; rw [ha])
      go_ret
      exact ⟨ret_bool (by simp [gateB, ha]), hb0⟩
    · go_enter Try.func100, Try.ntmps100
      go_wp2_with (go_at_call 71; refine (within_any _ _ _ _).mono ?_; rintro e w' ⟨rfl, rfl⟩; first | rw [ha] | skip)
      go_ret
      exact ⟨ret_bool (by simp [gateB, ha]), hb0⟩
  by_cases k2 : k = 2
  · subst k2
    cases ha : inB a 0 (own - 1)
    · go_enter Try.func100, Try.ntmps100
      go_wp2_with (go_at_call 71; refine (within_any _ _ _ _).mono ?_; rintro e w' ⟨rfl, rfl⟩; rw [ha])
      go_ret
      exact ⟨ret_bool (by simp [gateB, ha]), hb0⟩
    · go_enter Try.func100, Try.ntmps100
      go_wp2_with (go_at_call 71; refine (within_any _ _ _ _).mono ?_; rintro e w' ⟨rfl, rfl⟩; rw [ha])
      go_ret
      exact ⟨ret_bool (by simp [gateB, ha]; rfl), hb0⟩
  have e0 : (k == 0) = false := by simp [k0]
  have e1 : (k == 1) = false := by simp [k1]
  have e2 : (k == 2) = false := by simp [k2]
  by_cases k3 : k = 3
  · subst k3
    by_cases ha : a = 0
    · subst ha
      go_enter Try.func100, Try.ntmps100
      go_wp2_with fail
      go_ret
      exact ⟨ret_bool (by simp [gateB]; rfl), hb0⟩
    · have ha' : (a == 0) = false := by simp [ha]
      go_enter Try.func100, Try.ntmps100
      go_wp2_with fail
      go_ret
      exact ⟨ret_bool (by simp [gateB, ha]), hb0⟩
  · have e3 : (k == 3) = false := by simp [k3]
    go_enter Try.func100, Try.ntmps100
    go_wp2_with fail
    go_ret
    exact ⟨ret_bool (by simp [gateB, k0, k1, k2, k3]), hb0⟩
theorem ciGate_any (w : World) (k a b own : Int) (h0 : 0 ≤ own) (h1 : own ≤ 1000000) :
    Calls Try.prog 95 #[.agg #[.int .i64 k, .int .i64 a, .int .i64 b], .int .i64 own] w (RetB (gateB own (k, a, b)) w) := by
  have hb0 : Below w.heap.size w (w.alloc (.cells #[.int .i64 k, .int .i64 a, .int .i64 b] 87)) := (Below.refl _ _).alloc (Nat.le_refl _) _
  by_cases k0 : k = 0
  · subst k0
    cases ha : inB a 0 (own - 1)
    · go_enter Try.func95, Try.ntmps95
      go_wp2_with (go_at_call 81; refine (l1In_any _ _ _ _).mono ?_; rintro e w' ⟨rfl, rfl⟩; rw [ha])
      go_ret
      exact ⟨ret_bool (by simp [gateB, ha]), hb0⟩
    · go_enter Try.func95, Try.ntmps95
      go_wp2_with (go_at_call 81; refine (l1In_any _ _ _ _).mono ?_; rintro e w' ⟨rfl, rfl⟩; first | rw [ha] | skip)
      go_ret
      exact ⟨ret_bool (by simp [gateB, ha]), hb0⟩
  by_cases k1 : k = 1
  · subst k1
    cases ha : inB a 0 (own - 1)
    · go_enter Try.func95, Try.ntmps95
      go_wp2_with (go_at_call 81; refine (l1In_any _ _ _ _).mono ?_; rintro e w' ⟨rfl, rfl⟩; rw [ha])
      go_ret
      exact ⟨ret_bool (by simp [gateB, ha]), hb0⟩
    · go_enter Try.func95, Try.ntmps95
      go_wp2_with (go_at_call 81; refine (l1In_any _ _ _ _).mono ?_; rintro e w' ⟨rfl, rfl⟩; first | rw [ha] | skip)
      go_ret
      exact ⟨ret_bool (by simp [gateB, ha]), hb0⟩
  by_cases k2 : k = 2
  · subst k2
    cases ha : inB a 0 (own - 1)
    · go_enter Try.func95, Try.ntmps95
      go_wp2_with (go_at_call 81; refine (l1In_any _ _ _ _).mono ?_; rintro e w' ⟨rfl, rfl⟩; rw [ha])
      go_ret
      exact ⟨ret_bool (by simp [gateB, ha]), hb0⟩
    · go_enter Try.func95, Try.ntmps95
      go_wp2_with (go_at_call 81; refine (l1In_any _ _ _ _).mono ?_; rintro e w' ⟨rfl, rfl⟩; rw [ha])
      go_ret
      exact ⟨ret_bool (by simp [gateB, ha]; rfl), hb0⟩
  have e0 : (k == 0) = false := by simp [k0]
  have e1 : (k == 1) = false := by simp [k1]
  have e2 : (k == 2) = false := by simp [k2]
  go_enter Try.func95, Try.ntmps95
  go_wp2_with fail
  all_goals
    go_ret
    exact ⟨ret_bool (by simp [gateB, *]), (Below.refl _ _).alloc (Nat.le_refl _) _⟩
end Go.Proofs.Ytilkgidilhgjeaa
