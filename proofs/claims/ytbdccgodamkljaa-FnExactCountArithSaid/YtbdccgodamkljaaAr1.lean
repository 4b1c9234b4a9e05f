/-
  Arithmetic circuits: the numbers of inputs and wires; which gates are valid.
-/
import Derived.Test.YtbdccgodamkljaaCirc5
import Derived.Test.YtbdccgodamkljaaField
namespace Go.Proofs.Ytbdccgodamkljaa
open Go.RowKit
set_option linter.unusedVariables false
set_option linter.unusedSimpArgs false

/-- An arithmetic circuit as a value. -/
def arithV (p i0 i1 : Int) (ga : Option Addr) (gn gc : Nat) (oa : Option Addr) (on oc : Nat) : Value := .agg #[.int .i64 p, .int .i64 i0, .int .i64 i1, .slice ga gn gc, .slice oa on oc]
/-- The five cells of a circuit in a box. -/
def BoxA (w : World) (b : Nat) (p i0 i1 : Int) (ga : Option Addr) (gn gc : Nat) (oa : Option Addr) (on oc : Nat) : Prop :=
  w.cell? ⟨b, 0, none⟩ = some (.int .i64 p) ∧ w.cell? ⟨b, 1, none⟩ = some (.int .i64 i0) ∧ w.cell? ⟨b, 2, none⟩ = some (.int .i64 i1) ∧ w.cell? ⟨b, 3, none⟩ = some (.slice ga gn gc) ∧ w.cell? ⟨b, 4, none⟩ = some (.slice oa on oc)
theorem boxA_new (w : World) (p i0 i1 : Int) (ga : Option Addr) (gn gc : Nat) (oa : Option Addr) (on oc : Nat) (t : TypeId) :
    BoxA (w.alloc (.cells #[.int .i64 p, .int .i64 i0, .int .i64 i1, .slice ga gn gc, .slice oa on oc] t)) w.heap.size p i0 i1 ga gn gc oa on oc := by
  have h := heap_alloc_new w (.cells #[.int .i64 p, .int .i64 i0, .int .i64 i1, .slice ga gn gc, .slice oa on oc] t)
  refine ⟨?_, ?_, ?_, ?_, ?_⟩
  · rw [cell_of_row _ _ 0 _ _ (0, 0) h]; rfl
  · rw [cell_of_row _ _ 1 _ _ (0, 0) h]; rfl
  · rw [cell_of_row _ _ 2 _ _ (0, 0) h]; rfl
  · rw [cell_of_row _ _ 3 _ _ (0, 0) h]; rfl
  · rw [cell_of_row _ _ 4 _ _ (0, 0) h]; rfl
theorem BoxA.below {w w' : World} {b C : Nat} {p i0 i1 : Int} {ga oa : Option Addr} {gn gc on oc : Nat} (h : BoxA w b p i0 i1 ga gn gc oa on oc) (hb : Below C w w') (hC : b < C) : BoxA w' b p i0 i1 ga gn gc oa on oc :=
  ⟨(hb.cell (p := ⟨b, 0, none⟩) hC).trans h.1, (hb.cell (p := ⟨b, 1, none⟩) hC).trans h.2.1, (hb.cell (p := ⟨b, 2, none⟩) hC).trans h.2.2.1, (hb.cell (p := ⟨b, 3, none⟩) hC).trans h.2.2.2.1, (hb.cell (p := ⟨b, 4, none⟩) hC).trans h.2.2.2.2⟩

theorem arInp_any (w : World) (p i0 i1 : Int) (ga oa : Option Addr) (gn gc on oc : Nat) (h0 : inB i0 0 8 = true) (h1 : inB i1 0 8 = true) :
    Calls Try.prog 66 #[arithV p i0 i1 ga gn gc oa on oc] w (RetN (i0 + i1) w) := by
  have h0 := inB_iff.1 h0
  have h1 := inB_iff.1 h1
  unfold arithV
  go_enter Try.func66, Try.ntmps66
  go_wp2_with fail
  go_ret
  exact ⟨rfl, (Below.refl _ _).alloc (Nat.le_refl _) _⟩
theorem arInputs_any (w : World) (p i0 i1 : Int) (ga oa : Option Addr) (gn gc on oc : Nat) (h0 : inB i0 0 8 = true) (h1 : inB i1 0 8 = true) :
    Calls Try.prog 85 #[arithV p i0 i1 ga gn gc oa on oc] w (RetN (i0 + i1) w) := by
  have h0 := inB_iff.1 h0
  have h1 := inB_iff.1 h1
  unfold arithV
  go_enter Try.func85, Try.ntmps85
  go_wp2_with fail
  go_ret
  exact ⟨rfl, (Below.refl _ _).alloc (Nat.le_refl _) _⟩
theorem arWires_any (w : World) (p i0 i1 : Int) (ga oa : Option Addr) (gn gc on oc : Nat) (h0 : inB i0 0 8 = true) (h1 : inB i1 0 8 = true) (hn : gn ≤ 1000000) :
    Calls Try.prog 111 #[arithV p i0 i1 ga gn gc oa on oc] w (RetN (i0 + i1 + gn) w) := by
  have H0 := Lib.hid h0
  have H1 := Lib.hid h1
  have h0 := inB_iff.1 h0
  have h1 := inB_iff.1 h1
  have hb0 : Below w.heap.size w (w.alloc (.cells #[.int .i64 p, .int .i64 i0, .int .i64 i1, .slice ga gn gc, .slice oa on oc] 39)) := (Below.refl _ _).alloc (Nat.le_refl _) _
  have hbx := boxA_new w p i0 i1 ga gn gc oa on oc 39
  have hsz : w.heap.size < (w.alloc (.cells #[.int .i64 p, .int .i64 i0, .int .i64 i1, .slice ga gn gc, .slice oa on oc] 39)).heap.size := by simp
  unfold arithV
  go_enter Try.func111, Try.ntmps111
  go_wp2_with fail
  generalize w.alloc (.cells #[.int .i64 p, .int .i64 i0, .int .i64 i1, .slice ga gn gc, .slice oa on oc] 39) = w1 at *
  obtain ⟨c0, c1, c2, c3, c4⟩ := hbx
  have hS : ∀ W, Below w1.heap.size w1 W → W.cell? ⟨w.heap.size, 0, none⟩ = some (.int .i64 p) ∧ W.cell? ⟨w.heap.size, 1, none⟩ = some (.int .i64 i0) ∧ W.cell? ⟨w.heap.size, 2, none⟩ = some (.int .i64 i1) ∧ W.cell? ⟨w.heap.size, 3, none⟩ = some (.slice ga gn gc) ∧ W.cell? ⟨w.heap.size, 4, none⟩ = some (.slice oa on oc) ∧ Below w1.heap.size w1 W :=
    fun W h => ⟨(h.cell (p := ⟨_, 0, none⟩) hsz).trans c0, (h.cell (p := ⟨_, 1, none⟩) hsz).trans c1, (h.cell (p := ⟨_, 2, none⟩) hsz).trans c2, (h.cell (p := ⟨_, 3, none⟩) hsz).trans c3, (h.cell (p := ⟨_, 4, none⟩) hsz).trans c4, h⟩
  have hS2 : ∀ W W', (W.cell? ⟨w.heap.size, 0, none⟩ = some (.int .i64 p) ∧ W.cell? ⟨w.heap.size, 1, none⟩ = some (.int .i64 i0) ∧ W.cell? ⟨w.heap.size, 2, none⟩ = some (.int .i64 i1) ∧ W.cell? ⟨w.heap.size, 3, none⟩ = some (.slice ga gn gc) ∧ W.cell? ⟨w.heap.size, 4, none⟩ = some (.slice oa on oc) ∧ Below w1.heap.size w1 W) → Below W.heap.size W W' → _ :=
    fun W W' h hb => hS W' (h.2.2.2.2.2.trans (hb.mono h.2.2.2.2.2.size))
  have HS := Lib.hid hS
  have HS2 := Lib.hid hS2
  clear hS hS2
  go_region_held3 (fun w' => w'.cell? ⟨w.heap.size, 0, none⟩ = some (.int .i64 p) ∧ w'.cell? ⟨w.heap.size, 1, none⟩ = some (.int .i64 i0) ∧ w'.cell? ⟨w.heap.size, 2, none⟩ = some (.int .i64 i1) ∧ w'.cell? ⟨w.heap.size, 3, none⟩ = some (.slice ga gn gc) ∧ w'.cell? ⟨w.heap.size, 4, none⟩ = some (.slice oa on oc) ∧ Below w1.heap.size w1 w') (first | exact HS.out _ (bdrewN (Below.refl _ _) 1) | exact HS2.out _ _ (by assumption) hb')
    (first | (go_at_call 85; refine (arInputs_any _ _ _ _ _ _ _ _ _ _ H0.out H1.out).mono ?_; rintro e w' ⟨rfl, hb'⟩))
  all_goals
    have hB := hb0.trans (((bdrewN (Below.refl _ _) 1).trans (hb'.mono (Nat.le_refl _))).mono hb0.size)
    go_wp2_with fail
    go_ret
    exact ⟨ret_int (by rw [IntKind.wrap_i64]; omega), hB⟩
/-- An arithmetic gate is valid behind so many wires. -/
def agateB (p own : Int) (g : Int × Int × Int) : Bool :=
  if g.1 = 0 ∨ g.1 = 1 then inB g.2.1 0 (own - 1) && inB g.2.2 0 (own - 1)
  else if g.1 = 2 then inB g.2.1 0 (own - 1) && inB g.2.2 0 (p - 1)
  else if g.1 = 3 then inB g.2.1 0 (p - 1) && decide (g.2.2 = 0) else false
def okA (p : Int) : List (Int × Int × Int) → Int → Bool
  | [], _ => true
  | g :: r, own => agateB p own g && okA p r (own + 1)
theorem okA_at (p : Int) : ∀ (l : List (Int × Int × Int)) (own : Int) (k : Nat) (g : Int × Int × Int), okA p l own = true → l[k]? = some g → agateB p (own + k) g = true
  | [], _, _, _, _, h => by simp at h
  | x :: r, own, 0, g, h, hg => by simp [okA] at h; simp at hg; subst hg; simpa using h.1
  | x :: r, own, k + 1, g, h, hg => by
    simp [okA] at h
    have := okA_at p r (own + 1) k g h.2 (by simpa using hg)
    rw [show own + ((k + 1 : Nat) : Int) = own + 1 + k from by omega]
    exact this
theorem okA_no (p : Int) : ∀ (l : List (Int × Int × Int)) (own : Int) (k : Nat) (g : Int × Int × Int), l[k]? = some g → agateB p (own + k) g = false → okA p l own = false
  | l, own, k, g, hg, h => by
    cases hb : okA p l own with
    | false => rfl
    | true => rw [okA_at p l own k g hb hg] at h; cases h
theorem okA_step (p : Int) : ∀ (l : List (Int × Int × Int)) (own : Int) (k : Nat) (g : Int × Int × Int), l[k]? = some g → okA p (l.take k) own = true → agateB p (own + k) g = true → okA p (l.take (k + 1)) own = true
  | [], _, _, _, h, _, _ => by simp at h
  | x :: r, own, 0, g, hg, _, hb => by simp at hg; subst hg; simpa [okA] using hb
  | x :: r, own, k + 1, g, hg, h, hb => by
    simp only [List.take_succ_cons, okA, Bool.and_eq_true] at h ⊢
    refine ⟨h.1, okA_step p r (own + 1) k g (by simpa using hg) h.2 ?_⟩
    rw [show own + 1 + (k : Int) = own + ((k + 1 : Nat) : Int) from by omega]
    exact hb
theorem agateB_kind {p own : Int} {g : Int × Int × Int} (h : agateB p own g = true) : 0 ≤ g.1 ∧ g.1 ≤ 3 := by
  unfold agateB at h
  split at h
  · omega
  · split at h
    · omega
    · split at h
      · omega
      · cases h
theorem okA_kinds {p : Int} {l : List (Int × Int × Int)} {own : Int} (h : okA p l own = true) : kindsOk l := fun k g hg => agateB_kind (okA_at p l own k g h hg)
theorem agateOk_any (w : World) (p k a b own : Int) (h0 : 0 ≤ own) (h1 : own ≤ 1000000) (hp0 : 0 ≤ p) (hp1 : p ≤ 1000000) :
    Calls Try.prog 65 #[.int .i64 p, .agg #[.int .i64 k, .int .i64 a, .int .i64 b], .int .i64 own] w (RetB (agateB p own (k, a, b)) w) := by
  have hb0 : Below w.heap.size w (w.alloc (.cells #[.int .i64 k, .int .i64 a, .int .i64 b] 68)) := (Below.refl _ _).alloc (Nat.le_refl _) _
  by_cases k0 : k = 0
  · subst k0
    cases ha : inB a 0 (own - 1)
    · go_enter Try.func65, Try.ntmps65
      go_wp2_with (go_at_call 56; refine (within_any _ _ _ _).mono ?_; rintro e w' ⟨rfl, rfl⟩; first | rw [ha] | skip)
      go_ret
      exact ⟨ret_bool (by simp [agateB, ha]), hb0⟩
    cases hb : inB b 0 (own - 1)
    · go_enter Try.func65, Try.ntmps65
      go_wp2_with (go_at_call 56; refine (within_any _ _ _ _).mono ?_; rintro e w' ⟨rfl, rfl⟩; first | rw [ha] | rw [hb] | skip)
      go_ret
      exact ⟨ret_bool (by simp [agateB, ha, hb]), hb0⟩
    · go_enter Try.func65, Try.ntmps65
      go_wp2_with (go_at_call 56; refine (within_any _ _ _ _).mono ?_; rintro e w' ⟨rfl, rfl⟩; first | rw [ha] | rw [hb] | skip)
      go_ret
      exact ⟨ret_bool (by simp [agateB, ha, hb]), hb0⟩
  by_cases k1 : k = 1
  · subst k1
    cases ha : inB a 0 (own - 1)
    · go_enter Try.func65, Try.ntmps65
      go_wp2_with (go_at_call 56; refine (within_any _ _ _ _).mono ?_; rintro e w' ⟨rfl, rfl⟩; first | rw [ha] | skip)
      go_ret
      exact ⟨ret_bool (by simp [agateB, ha]), hb0⟩
    cases hb : inB b 0 (own - 1)
    · go_enter Try.func65, Try.ntmps65
      go_wp2_with (go_at_call 56; refine (within_any _ _ _ _).mono ?_; rintro e w' ⟨rfl, rfl⟩; first | rw [ha] | rw [hb] | skip)
      go_ret
      exact ⟨ret_bool (by simp [agateB, ha, hb]), hb0⟩
    · go_enter Try.func65, Try.ntmps65
      go_wp2_with (go_at_call 56; refine (within_any _ _ _ _).mono ?_; rintro e w' ⟨rfl, rfl⟩; first | rw [ha] | rw [hb] | skip)
      go_ret
      exact ⟨ret_bool (by simp [agateB, ha, hb]), hb0⟩
  by_cases k2 : k = 2
  · subst k2
    cases ha : inB a 0 (own - 1)
    · go_enter Try.func65, Try.ntmps65
      go_wp2_with (go_at_call 56; refine (within_any _ _ _ _).mono ?_; rintro e w' ⟨rfl, rfl⟩; first | rw [ha] | skip)
      go_ret
      exact ⟨ret_bool (by simp [agateB, ha]), hb0⟩
    cases hb : inB b 0 (p - 1)
    · go_enter Try.func65, Try.ntmps65
      go_wp2_with (go_at_call 56; refine (within_any _ _ _ _).mono ?_; rintro e w' ⟨rfl, rfl⟩; first | rw [ha] | rw [hb] | skip)
      go_ret
      exact ⟨ret_bool (by simp [agateB, ha, hb]), hb0⟩
    · go_enter Try.func65, Try.ntmps65
      go_wp2_with (go_at_call 56; refine (within_any _ _ _ _).mono ?_; rintro e w' ⟨rfl, rfl⟩; first | rw [ha] | rw [hb] | skip)
      go_ret
      exact ⟨ret_bool (by simp [agateB, ha, hb]), hb0⟩
  have e0 : (k == 0) = false := by simp [k0]
  have e1 : (k == 1) = false := by simp [k1]
  have e2 : (k == 2) = false := by simp [k2]
  by_cases k3 : k = 3
  · subst k3
    cases ha : inB a 0 (p - 1)
    · go_enter Try.func65, Try.ntmps65
      go_wp2_with (go_at_call 56; refine (within_any _ _ _ _).mono ?_; rintro e w' ⟨rfl, rfl⟩; first | rw [ha] | skip)
      go_ret
      exact ⟨ret_bool (by simp [agateB, ha]), hb0⟩
    by_cases hb : b = 0
    · subst hb
      go_enter Try.func65, Try.ntmps65
      go_wp2_with (go_at_call 56; refine (within_any _ _ _ _).mono ?_; rintro e w' ⟨rfl, rfl⟩; first | rw [ha] | skip)
      go_ret
      exact ⟨ret_bool (by simp [agateB, ha]), hb0⟩
    · have hb' : (b == 0) = false := by simp [hb]
      go_enter Try.func65, Try.ntmps65
      go_wp2_with (go_at_call 56; refine (within_any _ _ _ _).mono ?_; rintro e w' ⟨rfl, rfl⟩; first | rw [ha] | skip)
      go_ret
      exact ⟨ret_bool (by simp [agateB, ha, hb]), hb0⟩
  have e3 : (k == 3) = false := by simp [k3]
  go_enter Try.func65, Try.ntmps65
  go_wp2_with fail
  go_ret
  exact ⟨ret_bool (by simp [agateB, k0, k1, k2, k3]), hb0⟩
theorem arGate_any (w : World) (p k a b own : Int) (h0 : 0 ≤ own) (h1 : own ≤ 1000000) (hp0 : 0 ≤ p) (hp1 : p ≤ 1000000) :
    Calls Try.prog 110 #[.int .i64 p, .agg #[.int .i64 k, .int .i64 a, .int .i64 b], .int .i64 own] w (RetB (agateB p own (k, a, b)) w) := by
  have hb0 : Below w.heap.size w (w.alloc (.cells #[.int .i64 k, .int .i64 a, .int .i64 b] 68)) := (Below.refl _ _).alloc (Nat.le_refl _) _
  by_cases k0 : k = 0
  · subst k0
    cases ha : inB a 0 (own - 1)
    · go_enter Try.func110, Try.ntmps110
      go_wp2_with (go_at_call 68; refine (l1In_any _ _ _ _).mono ?_; rintro e w' ⟨rfl, rfl⟩; first | rw [ha] | skip)
      go_ret
      exact ⟨ret_bool (by simp [agateB, ha]), hb0⟩
    cases hb : inB b 0 (own - 1)
    · go_enter Try.func110, Try.ntmps110
      go_wp2_with (go_at_call 68; refine (l1In_any _ _ _ _).mono ?_; rintro e w' ⟨rfl, rfl⟩; first | rw [ha] | rw [hb] | skip)
      go_ret
      exact ⟨ret_bool (by simp [agateB, ha, hb]), hb0⟩
    · go_enter Try.func110, Try.ntmps110
      go_wp2_with (go_at_call 68; refine (l1In_any _ _ _ _).mono ?_; rintro e w' ⟨rfl, rfl⟩; first | rw [ha] | rw [hb] | skip)
      go_ret
      exact ⟨ret_bool (by simp [agateB, ha, hb]), hb0⟩
  by_cases k1 : k = 1
  · subst k1
    cases ha : inB a 0 (own - 1)
    · go_enter Try.func110, Try.ntmps110
      go_wp2_with (go_at_call 68; refine (l1In_any _ _ _ _).mono ?_; rintro e w' ⟨rfl, rfl⟩; first | rw [ha] | skip)
      go_ret
      exact ⟨ret_bool (by simp [agateB, ha]), hb0⟩
    cases hb : inB b 0 (own - 1)
    · go_enter Try.func110, Try.ntmps110
      go_wp2_with (go_at_call 68; refine (l1In_any _ _ _ _).mono ?_; rintro e w' ⟨rfl, rfl⟩; first | rw [ha] | rw [hb] | skip)
      go_ret
      exact ⟨ret_bool (by simp [agateB, ha, hb]), hb0⟩
    · go_enter Try.func110, Try.ntmps110
      go_wp2_with (go_at_call 68; refine (l1In_any _ _ _ _).mono ?_; rintro e w' ⟨rfl, rfl⟩; first | rw [ha] | rw [hb] | skip)
      go_ret
      exact ⟨ret_bool (by simp [agateB, ha, hb]), hb0⟩
  by_cases k2 : k = 2
  · subst k2
    cases ha : inB a 0 (own - 1)
    · go_enter Try.func110, Try.ntmps110
      go_wp2_with (go_at_call 68; refine (l1In_any _ _ _ _).mono ?_; rintro e w' ⟨rfl, rfl⟩; first | rw [ha] | skip)
      go_ret
      exact ⟨ret_bool (by simp [agateB, ha]), hb0⟩
    cases hb : inB b 0 (p - 1)
    · go_enter Try.func110, Try.ntmps110
      go_wp2_with (go_at_call 68; refine (l1In_any _ _ _ _).mono ?_; rintro e w' ⟨rfl, rfl⟩; first | rw [ha] | rw [hb] | skip)
      go_ret
      exact ⟨ret_bool (by simp [agateB, ha, hb]), hb0⟩
    · go_enter Try.func110, Try.ntmps110
      go_wp2_with (go_at_call 68; refine (l1In_any _ _ _ _).mono ?_; rintro e w' ⟨rfl, rfl⟩; first | rw [ha] | rw [hb] | skip)
      go_ret
      exact ⟨ret_bool (by simp [agateB, ha, hb]), hb0⟩
  have e0 : (k == 0) = false := by simp [k0]
  have e1 : (k == 1) = false := by simp [k1]
  have e2 : (k == 2) = false := by simp [k2]
  by_cases k3 : k = 3
  · subst k3
    cases ha : inB a 0 (p - 1)
    · go_enter Try.func110, Try.ntmps110
      go_wp2_with (go_at_call 68; refine (l1In_any _ _ _ _).mono ?_; rintro e w' ⟨rfl, rfl⟩; first | rw [ha] | skip)
      go_ret
      exact ⟨ret_bool (by simp [agateB, ha]), hb0⟩
    by_cases hb : b = 0
    · subst hb
      go_enter Try.func110, Try.ntmps110
      go_wp2_with (go_at_call 68; refine (l1In_any _ _ _ _).mono ?_; rintro e w' ⟨rfl, rfl⟩; first | rw [ha] | skip)
      go_ret
      exact ⟨ret_bool (by simp [agateB, ha]), hb0⟩
    · have hb' : (b == 0) = false := by simp [hb]
      go_enter Try.func110, Try.ntmps110
      go_wp2_with (go_at_call 68; refine (l1In_any _ _ _ _).mono ?_; rintro e w' ⟨rfl, rfl⟩; first | rw [ha] | skip)
      go_ret
      exact ⟨ret_bool (by simp [agateB, ha, hb]), hb0⟩
  have e3 : (k == 3) = false := by simp [k3]
  go_enter Try.func110, Try.ntmps110
  go_wp2_with fail
  go_ret
  exact ⟨ret_bool (by simp [agateB, k0, k1, k2, k3]), hb0⟩
end Go.Proofs.Ytbdccgodamkljaa
