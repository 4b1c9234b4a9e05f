/-
  Circuits: which circuits are valid.
-/
import Derived.Test.YtilkgidilhgjeaaCirc1
namespace Go.Proofs.Ytilkgidilhgjeaa
open Go.RowKit
set_option linter.unusedVariables false
set_option linter.unusedSimpArgs false

/-- The closure within IsCircuit: it captured the box of the circuit. -/
theorem isCircuit1_any (w : World) (b : Nat) (i0 i1 : Int) (ga oa : Option Addr) (gn gc on oc : Nat) (x : Int) (hbx : BoxC w b i0 i1 ga gn gc oa on oc) (hb : b < w.heap.size) (h0 : inB i0 0 20 = true) (h1 : inB i1 0 20 = true) (hn : gn ≤ 1000000) :
    Calls Try.prog 101 #[.int .i64 x, .pointer (some ⟨b, 0, none⟩)] w fun e w' => e = .returned (.bool (inB x 0 (i0 + i1 + gn - 1))) ∧ Below w.heap.size w w' := by
  obtain ⟨c0, c1, c2, c3⟩ := hbx
  have H0 := Lib.hid h0
  have H1 := Lib.hid h1
  have q0 := inB_iff.1 h0
  have q1 := inB_iff.1 h1
  go_enter Try.func101, Try.ntmps101
  go_wp2_with (first | (go_at_call 62; refine (wires_any _ _ _ _ _ _ _ _ _ H0.out H1.out (by omega)).mono ?_; rintro e w1 ⟨rfl, hb1⟩) | (go_at_call 71; refine (within_any _ _ _ _).mono ?_; rintro e w' ⟨rfl, rfl⟩))
  go_ret
  exact ⟨rfl, hb1⟩
theorem pred_isCircuit1 (w : World) (b : Nat) (i0 i1 : Int) (ga oa : Option Addr) (gn gc on oc : Nat) (xs : List Int) (hbx : BoxC w b i0 i1 ga gn gc oa on oc) (hb : b < w.heap.size) (h0 : inB i0 0 20 = true) (h1 : inB i1 0 20 = true) (hn : gn ≤ 1000000) :
    Pred 101 #[.pointer (some ⟨b, 0, none⟩)] w (fun x => inB x 0 (i0 + i1 + gn - 1)) xs :=
  ⟨fun args W => by kernel_rfl, fun x _ W hW => isCircuit1_any W b i0 i1 ga oa gn gc on oc x (hbx.below hW hb) (Nat.lt_of_lt_of_le hb hW.size) h0 h1 hn⟩
theorem impl_IsCircuit_any (w : World) (i0 i1 : Int) (ga oa : Option Addr) (gn gc on oc : Nat) (gs os : List Int) (hg : Flat 3 w w.heap.size ga gn gs) (ho : Ints w w.heap.size oa on os) :
    Calls Try.prog 61 #[circV i0 i1 ga gn gc oa on oc] w (RetB (isCircF i0 i1 gs os) w) := by
  have hgl := Lib.hid hg.1
  have hol := Lib.hid ho.1
  have hml := Lib.hid (gts_length gn gs hg.1)
  have hb0 : Below w.heap.size w (w.alloc (.cells #[.int .i64 i0, .int .i64 i1, .slice ga gn gc, .slice oa on oc] 43)) := (Below.refl _ _).alloc (Nat.le_refl _) _
  have hbx := boxC_new w i0 i1 ga gn gc oa on oc 43
  have hsz : w.heap.size < (w.alloc (.cells #[.int .i64 i0, .int .i64 i1, .slice ga gn gc, .slice oa on oc] 43)).heap.size := by simp
  unfold circV
  cases h0 : inB i0 0 20
  · clear hbx hsz
    go_enter Try.func61, Try.ntmps61
    go_wp2_with (go_at_call 71; refine (within_any _ _ _ _).mono ?_; rintro e w' ⟨rfl, rfl⟩; first | rw [h0] | rw [h1])
    go_ret
    exact ⟨ret_bool (by simp [isCircF, h0]), hb0⟩
  cases h1 : inB i1 0 20
  · clear hbx hsz
    go_enter Try.func61, Try.ntmps61
    go_wp2_with (go_at_call 71; refine (within_any _ _ _ _).mono ?_; rintro e w' ⟨rfl, rfl⟩; first | rw [h0] | rw [h1])
    go_ret
    exact ⟨ret_bool (by simp [isCircF, h1]), hb0⟩
  by_cases h300 : gn ≤ 300
  rotate_left
  · have h300' : ¬ (gs.length ≤ 900) := by rw [hgl.out]; omega
    clear hbx hsz
    go_enter Try.func61, Try.ntmps61
    go_wp2_with (go_at_call 71; refine (within_any _ _ _ _).mono ?_; rintro e w' ⟨rfl, rfl⟩; first | rw [h0] | rw [h1])
    go_ret
    exact ⟨ret_bool (by simp [isCircF, h300']), hb0⟩
  by_cases h40 : on ≤ 40
  rotate_left
  · have h40' : ¬ (os.length ≤ 40) := by rw [hol.out]; omega
    clear hbx hsz
    go_enter Try.func61, Try.ntmps61
    go_wp2_with (go_at_call 71; refine (within_any _ _ _ _).mono ?_; rintro e w' ⟨rfl, rfl⟩; first | rw [h0] | rw [h1])
    go_ret
    exact ⟨ret_bool (by simp [isCircF, h40']), hb0⟩
  have H0 := Lib.hid h0
  have H1 := Lib.hid h1
  have q0 := inB_iff.1 h0
  have q1 := inB_iff.1 h1
  have HE : Hid (isCircF i0 i1 gs os = (okG (gts gs) (i0 + i1) && allIn 0 (i0 + i1 + gn - 1) os)) := by
    show isCircF i0 i1 gs os = _
    have e1 : gs.length ≤ 900 := by rw [hgl.out]; omega
    have e2 : os.length ≤ 40 := by rw [hol.out]; omega
    simp [isCircF, h0, h1, e1, e2, hml.out]
  go_enter Try.func61, Try.ntmps61
  go_wp2_with (go_at_call 71; refine (within_any _ _ _ _).mono ?_; rintro e w' ⟨rfl, rfl⟩; first | rw [h0] | rw [h1])
  generalize w.alloc (.cells #[.int .i64 i0, .int .i64 i1, .slice ga gn gc, .slice oa on oc] 43) = w1 at *
  go_loopw [30] (fun i wr => ∃ k : Nat, k ≤ gn ∧ i = .int .i64 k ∧ Hid (okG ((gts gs).take k) (i0 + i1) = true) ∧ Below w1.heap.size w1 wr) (fun i _ => gn - (intOf i).toNat)
  case atStart => exact ⟨0, Nat.zero_le _, rfl, by simp [Hid, okG], Below.refl _ _⟩
  case round =>
    obtain ⟨k, hk, rfl, hok, hbel⟩ := hrel
    have hbelw := hb0.trans (hbel.mono hb0.size)
    by_cases hlt : k < gn
    · obtain ⟨b1, o1, x, y, z, rfl, hbb, hgk, c0, c1, c2⟩ := hg.gate hlt
      have g0 : wr.cell? ⟨b1, o1 + k * 3, none⟩ = some (.int .i64 x) := (hbelw.cell (by exact hbb)).trans c0
      have g1 : wr.cell? ⟨b1, o1 + k * 3 + 1, none⟩ = some (.int .i64 y) := (hbelw.cell (by exact hbb)).trans c1
      have g2 : wr.cell? ⟨b1, o1 + k * 3 + 2, none⟩ = some (.int .i64 z) := (hbelw.cell (by exact hbb)).trans c2
      have HG := Lib.hid hgk
      clear c0 c1 c2 hgk
      have hal : Below wr.heap.size wr (wr.alloc (.cells #[.int .i64 x, .int .i64 y, .int .i64 z] 87)) := (Below.refl _ _).alloc (Nat.le_refl _) _
      have hsz2 : wr.heap.size < (wr.alloc (.cells #[.int .i64 x, .int .i64 y, .int .i64 z] 87)).heap.size := by simp
      have hbg := heap_alloc_new wr (.cells #[.int .i64 x, .int .i64 y, .int .i64 z] 87)
      go_wp2_with fail
      generalize wr.alloc (.cells #[.int .i64 x, .int .i64 y, .int .i64 z] 87) = W2 at *
      have hbel2 := hbel.trans (hal.mono hbel.size)
      have hbelw2 := hb0.trans (hbel2.mono hb0.size)
      have hszw : w.heap.size < W2.heap.size := Nat.lt_of_lt_of_le hsz hbel2.size
      obtain ⟨d0, d1, d2, d3⟩ := hbx.below hbel2 hsz
      have e0 : W2.cell? ⟨wr.heap.size, 0, none⟩ = some (.int .i64 x) := by rw [cell_of_row W2 _ 0 _ _ (0, 0) hbg]; rfl
      have e1 : W2.cell? ⟨wr.heap.size, 1, none⟩ = some (.int .i64 y) := by rw [cell_of_row W2 _ 1 _ _ (0, 0) hbg]; rfl
      have e2 : W2.cell? ⟨wr.heap.size, 2, none⟩ = some (.int .i64 z) := by rw [cell_of_row W2 _ 2 _ _ (0, 0) hbg]; rfl
      have hS : ∀ W, Below W2.heap.size W2 W → W.cell? ⟨w.heap.size, 0, none⟩ = some (.int .i64 i0) ∧ W.cell? ⟨w.heap.size, 1, none⟩ = some (.int .i64 i1) ∧ W.cell? ⟨w.heap.size, 2, none⟩ = some (.slice (some ⟨b1, o1, none⟩) gn gc) ∧ W.cell? ⟨w.heap.size, 3, none⟩ = some (.slice oa on oc) ∧ W.cell? ⟨wr.heap.size, 0, none⟩ = some (.int .i64 x) ∧ W.cell? ⟨wr.heap.size, 1, none⟩ = some (.int .i64 y) ∧ W.cell? ⟨wr.heap.size, 2, none⟩ = some (.int .i64 z) ∧ Below W2.heap.size W2 W :=
        fun W h => ⟨(h.cell (p := ⟨_, 0, none⟩) hszw).trans d0, (h.cell (p := ⟨_, 1, none⟩) hszw).trans d1, (h.cell (p := ⟨_, 2, none⟩) hszw).trans d2, (h.cell (p := ⟨_, 3, none⟩) hszw).trans d3, (h.cell (p := ⟨_, 0, none⟩) hsz2).trans e0, (h.cell (p := ⟨_, 1, none⟩) hsz2).trans e1, (h.cell (p := ⟨_, 2, none⟩) hsz2).trans e2, h⟩
      have hS2 : ∀ W W', (W.cell? ⟨w.heap.size, 0, none⟩ = some (.int .i64 i0) ∧ W.cell? ⟨w.heap.size, 1, none⟩ = some (.int .i64 i1) ∧ W.cell? ⟨w.heap.size, 2, none⟩ = some (.slice (some ⟨b1, o1, none⟩) gn gc) ∧ W.cell? ⟨w.heap.size, 3, none⟩ = some (.slice oa on oc) ∧ W.cell? ⟨wr.heap.size, 0, none⟩ = some (.int .i64 x) ∧ W.cell? ⟨wr.heap.size, 1, none⟩ = some (.int .i64 y) ∧ W.cell? ⟨wr.heap.size, 2, none⟩ = some (.int .i64 z) ∧ Below W2.heap.size W2 W) → Below W.heap.size W W' → _ :=
        fun W W' h hb => hS W' (h.2.2.2.2.2.2.2.trans (hb.mono h.2.2.2.2.2.2.2.size))
      have HS := Lib.hid hS
      have HS2 := Lib.hid hS2
      have hwr : IntKind.i64.wrap (i0 + i1 + (k : Int)) = i0 + i1 + k := by rw [IntKind.wrap_i64]; omega
      have l0 : 0 ≤ i0 + i1 + (k : Int) := by omega
      have l1 : i0 + i1 + (k : Int) ≤ 1000000 := by omega
      clear hS hS2 hbg hal
      cases hgb : gateB (i0 + i1 + k) (x, y, z)
      · go_region_held3 (fun w' => w'.cell? ⟨w.heap.size, 0, none⟩ = some (.int .i64 i0) ∧ w'.cell? ⟨w.heap.size, 1, none⟩ = some (.int .i64 i1) ∧ w'.cell? ⟨w.heap.size, 2, none⟩ = some (.slice (some ⟨b1, o1, none⟩) gn gc) ∧ w'.cell? ⟨w.heap.size, 3, none⟩ = some (.slice oa on oc) ∧ w'.cell? ⟨wr.heap.size, 0, none⟩ = some (.int .i64 x) ∧ w'.cell? ⟨wr.heap.size, 1, none⟩ = some (.int .i64 y) ∧ w'.cell? ⟨wr.heap.size, 2, none⟩ = some (.int .i64 z) ∧ Below W2.heap.size W2 w') (first | exact HS.out _ (bdrewN (Below.refl _ _) 1) | exact HS2.out _ _ (by assumption) hb')
          (first | (go_at_call 63; refine (inputs_any _ _ _ _ _ _ _ _ _ H0.out H1.out).mono ?_; rintro e w' ⟨rfl, hb'⟩) | (go_at_call 100; (try rw [hwr]); refine (gateOk_any _ _ _ _ _ l0 l1).mono ?_; rintro e w' ⟨rfl, hb'⟩; rw [hgb]))
        all_goals
          rename_i hH
          have hbr := hbel2.trans (hH.2.2.2.2.2.2.2.mono hbel2.size)
          go_wp2_with fail
          go_ret
          exact ⟨ret_bool (by rw [HE.out, okG_no _ _ _ _ HG.out hgb]; rfl), hb0.trans (hbr.mono hb0.size)⟩
      · go_region_held3 (fun w' => w'.cell? ⟨w.heap.size, 0, none⟩ = some (.int .i64 i0) ∧ w'.cell? ⟨w.heap.size, 1, none⟩ = some (.int .i64 i1) ∧ w'.cell? ⟨w.heap.size, 2, none⟩ = some (.slice (some ⟨b1, o1, none⟩) gn gc) ∧ w'.cell? ⟨w.heap.size, 3, none⟩ = some (.slice oa on oc) ∧ w'.cell? ⟨wr.heap.size, 0, none⟩ = some (.int .i64 x) ∧ w'.cell? ⟨wr.heap.size, 1, none⟩ = some (.int .i64 y) ∧ w'.cell? ⟨wr.heap.size, 2, none⟩ = some (.int .i64 z) ∧ Below W2.heap.size W2 w') (first | exact HS.out _ (bdrewN (Below.refl _ _) 1) | exact HS2.out _ _ (by assumption) hb')
          (first | (go_at_call 63; refine (inputs_any _ _ _ _ _ _ _ _ _ H0.out H1.out).mono ?_; rintro e w' ⟨rfl, hb'⟩) | (go_at_call 100; (try rw [hwr]); refine (gateOk_any _ _ _ _ _ l0 l1).mono ?_; rintro e w' ⟨rfl, hb'⟩; rw [hgb]))
        all_goals
          rename_i hH
          have hbr := hbel2.trans (hH.2.2.2.2.2.2.2.mono hbel2.size)
          go_wp2_with fail
          go_roundw
          case rel => exact ⟨k + 1, by omega, by go_num, okG_step _ _ _ _ HG.out hok.out hgb, hbr⟩
          case measure => simp [intOf] <;> omega
    · obtain rfl : k = gn := by omega
      have hok2 : okG (gts gs) (i0 + i1) = true := by have := hok.out; rwa [List.take_of_length_le (by rw [hml.out]; exact Nat.le_refl _)] at this
      have HK := Lib.hid hok2
      clear hok2
      obtain ⟨d0, d1, d2, d3⟩ := hbx.below hbel hsz
      have hszr : w.heap.size < wr.heap.size := Nat.lt_of_lt_of_le hsz hbel.size
      have hoI := (ho.below hbelw (Nat.le_refl _)).up hbelw.size
      have HBX : BoxC wr w.heap.size i0 i1 ga k gc oa on oc := ⟨d0, d1, d2, d3⟩
      have HP := Lib.hid (pred_isCircuit1 wr w.heap.size i0 i1 ga oa k gc on oc os HBX hszr H0.out H1.out (by omega))
      go_wp2_with (go_at_call 69; refine (areAll_any _ _ _ _ _ _ _ _ hoI HP.out).mono ?_; rintro e w2 ⟨rfl, hb2⟩)
      go_ret
      exact ⟨ret_bool (by rw [HE.out, HK.out]; rfl), hbelw.trans (hb2.mono hbelw.size)⟩
theorem ciGood_any (w : World) (i0 i1 : Int) (ga oa : Option Addr) (gn gc on oc : Nat) (gs os : List Int) (hg : Flat 3 w w.heap.size ga gn gs) (ho : Ints w w.heap.size oa on os) :
    Calls Try.prog 57 #[circV i0 i1 ga gn gc oa on oc] w (RetB (isCircF i0 i1 gs os) w) := by
  have hgl := Lib.hid hg.1
  have hol := Lib.hid ho.1
  have hml := Lib.hid (gts_length gn gs hg.1)
  have hb0 : Below w.heap.size w (w.alloc (.cells #[.int .i64 i0, .int .i64 i1, .slice ga gn gc, .slice oa on oc] 43)) := (Below.refl _ _).alloc (Nat.le_refl _) _
  have hbx := boxC_new w i0 i1 ga gn gc oa on oc 43
  have hsz : w.heap.size < (w.alloc (.cells #[.int .i64 i0, .int .i64 i1, .slice ga gn gc, .slice oa on oc] 43)).heap.size := by simp
  unfold circV
  cases h0 : inB i0 0 20
  · clear hbx hsz
    go_enter Try.func57, Try.ntmps57
    go_wp2_with (go_at_call 81; refine (l1In_any _ _ _ _).mono ?_; rintro e w' ⟨rfl, rfl⟩; first | rw [h0] | rw [h1])
    go_ret
    exact ⟨ret_bool (by simp [isCircF, h0]), hb0⟩
  cases h1 : inB i1 0 20
  · clear hbx hsz
    go_enter Try.func57, Try.ntmps57
    go_wp2_with (go_at_call 81; refine (l1In_any _ _ _ _).mono ?_; rintro e w' ⟨rfl, rfl⟩; first | rw [h0] | rw [h1])
    go_ret
    exact ⟨ret_bool (by simp [isCircF, h1]), hb0⟩
  by_cases h300 : gn ≤ 300
  rotate_left
  · have h300' : ¬ (gs.length ≤ 900) := by rw [hgl.out]; omega
    clear hbx hsz
    go_enter Try.func57, Try.ntmps57
    go_wp2_with (go_at_call 81; refine (l1In_any _ _ _ _).mono ?_; rintro e w' ⟨rfl, rfl⟩; first | rw [h0] | rw [h1])
    go_ret
    exact ⟨ret_bool (by simp [isCircF, h300']), hb0⟩
  by_cases h40 : on ≤ 40
  rotate_left
  · have h40' : ¬ (os.length ≤ 40) := by rw [hol.out]; omega
    clear hbx hsz
    go_enter Try.func57, Try.ntmps57
    go_wp2_with (go_at_call 81; refine (l1In_any _ _ _ _).mono ?_; rintro e w' ⟨rfl, rfl⟩; first | rw [h0] | rw [h1])
    go_ret
    exact ⟨ret_bool (by simp [isCircF, h40']), hb0⟩
  have H0 := Lib.hid h0
  have H1 := Lib.hid h1
  have q0 := inB_iff.1 h0
  have q1 := inB_iff.1 h1
  have HE : Hid (isCircF i0 i1 gs os = (okG (gts gs) (i0 + i1) && allIn 0 (i0 + i1 + gn - 1) os)) := by
    show isCircF i0 i1 gs os = _
    have e1 : gs.length ≤ 900 := by rw [hgl.out]; omega
    have e2 : os.length ≤ 40 := by rw [hol.out]; omega
    simp [isCircF, h0, h1, e1, e2, hml.out]
  go_enter Try.func57, Try.ntmps57
  go_wp2_with (go_at_call 81; refine (l1In_any _ _ _ _).mono ?_; rintro e w' ⟨rfl, rfl⟩; first | rw [h0] | rw [h1])
  generalize w.alloc (.cells #[.int .i64 i0, .int .i64 i1, .slice ga gn gc, .slice oa on oc] 43) = w1 at *
  go_loopw [30] (fun i wr => ∃ k : Nat, k ≤ gn ∧ i = .int .i64 k ∧ Hid (okG ((gts gs).take k) (i0 + i1) = true) ∧ Below w1.heap.size w1 wr) (fun i _ => gn - (intOf i).toNat)
  case atStart => exact ⟨0, Nat.zero_le _, rfl, by simp [Hid, okG], Below.refl _ _⟩
  case round =>
    obtain ⟨k, hk, rfl, hok, hbel⟩ := hrel
    have hbelw := hb0.trans (hbel.mono hb0.size)
    by_cases hlt : k < gn
    · obtain ⟨b1, o1, x, y, z, rfl, hbb, hgk, c0, c1, c2⟩ := hg.gate hlt
      have g0 : wr.cell? ⟨b1, o1 + k * 3, none⟩ = some (.int .i64 x) := (hbelw.cell (by exact hbb)).trans c0
      have g1 : wr.cell? ⟨b1, o1 + k * 3 + 1, none⟩ = some (.int .i64 y) := (hbelw.cell (by exact hbb)).trans c1
      have g2 : wr.cell? ⟨b1, o1 + k * 3 + 2, none⟩ = some (.int .i64 z) := (hbelw.cell (by exact hbb)).trans c2
      have HG := Lib.hid hgk
      clear c0 c1 c2 hgk
      have hal : Below wr.heap.size wr (wr.alloc (.cells #[.int .i64 x, .int .i64 y, .int .i64 z] 87)) := (Below.refl _ _).alloc (Nat.le_refl _) _
      have hsz2 : wr.heap.size < (wr.alloc (.cells #[.int .i64 x, .int .i64 y, .int .i64 z] 87)).heap.size := by simp
      have hbg := heap_alloc_new wr (.cells #[.int .i64 x, .int .i64 y, .int .i64 z] 87)
      go_wp2_with fail
      generalize wr.alloc (.cells #[.int .i64 x, .int .i64 y, .int .i64 z] 87) = W2 at *
      have hbel2 := hbel.trans (hal.mono hbel.size)
      have hbelw2 := hb0.trans (hbel2.mono hb0.size)
      have hszw : w.heap.size < W2.heap.size := Nat.lt_of_lt_of_le hsz hbel2.size
      obtain ⟨d0, d1, d2, d3⟩ := hbx.below hbel2 hsz
      have e0 : W2.cell? ⟨wr.heap.size, 0, none⟩ = some (.int .i64 x) := by rw [cell_of_row W2 _ 0 _ _ (0, 0) hbg]; rfl
      have e1 : W2.cell? ⟨wr.heap.size, 1, none⟩ = some (.int .i64 y) := by rw [cell_of_row W2 _ 1 _ _ (0, 0) hbg]; rfl
      have e2 : W2.cell? ⟨wr.heap.size, 2, none⟩ = some (.int .i64 z) := by rw [cell_of_row W2 _ 2 _ _ (0, 0) hbg]; rfl
      have hS : ∀ W, Below W2.heap.size W2 W → W.cell? ⟨w.heap.size, 0, none⟩ = some (.int .i64 i0) ∧ W.cell? ⟨w.heap.size, 1, none⟩ = some (.int .i64 i1) ∧ W.cell? ⟨w.heap.size, 2, none⟩ = some (.slice (some ⟨b1, o1, none⟩) gn gc) ∧ W.cell? ⟨w.heap.size, 3, none⟩ = some (.slice oa on oc) ∧ W.cell? ⟨wr.heap.size, 0, none⟩ = some (.int .i64 x) ∧ W.cell? ⟨wr.heap.size, 1, none⟩ = some (.int .i64 y) ∧ W.cell? ⟨wr.heap.size, 2, none⟩ = some (.int .i64 z) ∧ Below W2.heap.size W2 W :=
        fun W h => ⟨(h.cell (p := ⟨_, 0, none⟩) hszw).trans d0, (h.cell (p := ⟨_, 1, none⟩) hszw).trans d1, (h.cell (p := ⟨_, 2, none⟩) hszw).trans d2, (h.cell (p := ⟨_, 3, none⟩) hszw).trans d3, (h.cell (p := ⟨_, 0, none⟩) hsz2).trans e0, (h.cell (p := ⟨_, 1, none⟩) hsz2).trans e1, (h.cell (p := ⟨_, 2, none⟩) hsz2).trans e2, h⟩
      have hS2 : ∀ W W', (W.cell? ⟨w.heap.size, 0, none⟩ = some (.int .i64 i0) ∧ W.cell? ⟨w.heap.size, 1, none⟩ = some (.int .i64 i1) ∧ W.cell? ⟨w.heap.size, 2, none⟩ = some (.slice (some ⟨b1, o1, none⟩) gn gc) ∧ W.cell? ⟨w.heap.size, 3, none⟩ = some (.slice oa on oc) ∧ W.cell? ⟨wr.heap.size, 0, none⟩ = some (.int .i64 x) ∧ W.cell? ⟨wr.heap.size, 1, none⟩ = some (.int .i64 y) ∧ W.cell? ⟨wr.heap.size, 2, none⟩ = some (.int .i64 z) ∧ Below W2.heap.size W2 W) → Below W.heap.size W W' → _ :=
        fun W W' h hb => hS W' (h.2.2.2.2.2.2.2.trans (hb.mono h.2.2.2.2.2.2.2.size))
      have HS := Lib.hid hS
      have HS2 := Lib.hid hS2
      have hwr : IntKind.i64.wrap (i0 + i1 + (k : Int)) = i0 + i1 + k := by rw [IntKind.wrap_i64]; omega
      have l0 : 0 ≤ i0 + i1 + (k : Int) := by omega
      have l1 : i0 + i1 + (k : Int) ≤ 1000000 := by omega
      clear hS hS2 hbg hal
      cases hgb : gateB (i0 + i1 + k) (x, y, z)
      · go_region_held3 (fun w' => w'.cell? ⟨w.heap.size, 0, none⟩ = some (.int .i64 i0) ∧ w'.cell? ⟨w.heap.size, 1, none⟩ = some (.int .i64 i1) ∧ w'.cell? ⟨w.heap.size, 2, none⟩ = some (.slice (some ⟨b1, o1, none⟩) gn gc) ∧ w'.cell? ⟨w.heap.size, 3, none⟩ = some (.slice oa on oc) ∧ w'.cell? ⟨wr.heap.size, 0, none⟩ = some (.int .i64 x) ∧ w'.cell? ⟨wr.heap.size, 1, none⟩ = some (.int .i64 y) ∧ w'.cell? ⟨wr.heap.size, 2, none⟩ = some (.int .i64 z) ∧ Below W2.heap.size W2 w') (first | exact HS.out _ (bdrewN (Below.refl _ _) 1) | exact HS2.out _ _ (by assumption) hb')
          (first | (go_at_call 96; refine (ciInputs_any _ _ _ _ _ _ _ _ _ H0.out H1.out).mono ?_; rintro e w' ⟨rfl, hb'⟩) | (go_at_call 95; (try rw [hwr]); refine (ciGate_any _ _ _ _ _ l0 l1).mono ?_; rintro e w' ⟨rfl, hb'⟩; rw [hgb]))
        all_goals
          rename_i hH
          have hbr := hbel2.trans (hH.2.2.2.2.2.2.2.mono hbel2.size)
          go_wp2_with fail
          go_ret
          exact ⟨ret_bool (by rw [HE.out, okG_no _ _ _ _ HG.out hgb]; rfl), hb0.trans (hbr.mono hb0.size)⟩
      · go_region_held3 (fun w' => w'.cell? ⟨w.heap.size, 0, none⟩ = some (.int .i64 i0) ∧ w'.cell? ⟨w.heap.size, 1, none⟩ = some (.int .i64 i1) ∧ w'.cell? ⟨w.heap.size, 2, none⟩ = some (.slice (some ⟨b1, o1, none⟩) gn gc) ∧ w'.cell? ⟨w.heap.size, 3, none⟩ = some (.slice oa on oc) ∧ w'.cell? ⟨wr.heap.size, 0, none⟩ = some (.int .i64 x) ∧ w'.cell? ⟨wr.heap.size, 1, none⟩ = some (.int .i64 y) ∧ w'.cell? ⟨wr.heap.size, 2, none⟩ = some (.int .i64 z) ∧ Below W2.heap.size W2 w') (first | exact HS.out _ (bdrewN (Below.refl _ _) 1) | exact HS2.out _ _ (by assumption) hb')
          (first | (go_at_call 96; refine (ciInputs_any _ _ _ _ _ _ _ _ _ H0.out H1.out).mono ?_; rintro e w' ⟨rfl, hb'⟩) | (go_at_call 95; (try rw [hwr]); refine (ciGate_any _ _ _ _ _ l0 l1).mono ?_; rintro e w' ⟨rfl, hb'⟩; rw [hgb]))
        all_goals
          rename_i hH
          have hbr := hbel2.trans (hH.2.2.2.2.2.2.2.mono hbel2.size)
          go_wp2_with fail
          go_roundw
          case rel => exact ⟨k + 1, by omega, by go_num, okG_step _ _ _ _ HG.out hok.out hgb, hbr⟩
          case measure => simp [intOf] <;> omega
    · obtain rfl : k = gn := by omega
      have hok2 : okG (gts gs) (i0 + i1) = true := by have := hok.out; rwa [List.take_of_length_le (by rw [hml.out]; exact Nat.le_refl _)] at this
      have HK := Lib.hid hok2
      clear hok2
      obtain ⟨d0, d1, d2, d3⟩ := hbx.below hbel hsz
      have hszr : w.heap.size < wr.heap.size := Nat.lt_of_lt_of_le hsz hbel.size
      have hS : ∀ W, Below wr.heap.size wr W → W.cell? ⟨w.heap.size, 0, none⟩ = some (.int .i64 i0) ∧ W.cell? ⟨w.heap.size, 1, none⟩ = some (.int .i64 i1) ∧ W.cell? ⟨w.heap.size, 2, none⟩ = some (.slice ga k gc) ∧ W.cell? ⟨w.heap.size, 3, none⟩ = some (.slice oa on oc) ∧ Below wr.heap.size wr W :=
        fun W h => ⟨(h.cell (p := ⟨_, 0, none⟩) hszr).trans d0, (h.cell (p := ⟨_, 1, none⟩) hszr).trans d1, (h.cell (p := ⟨_, 2, none⟩) hszr).trans d2, (h.cell (p := ⟨_, 3, none⟩) hszr).trans d3, h⟩
      have hS2 : ∀ W W', (W.cell? ⟨w.heap.size, 0, none⟩ = some (.int .i64 i0) ∧ W.cell? ⟨w.heap.size, 1, none⟩ = some (.int .i64 i1) ∧ W.cell? ⟨w.heap.size, 2, none⟩ = some (.slice ga k gc) ∧ W.cell? ⟨w.heap.size, 3, none⟩ = some (.slice oa on oc) ∧ Below wr.heap.size wr W) → Below W.heap.size W W' → _ :=
        fun W W' h hb => hS W' (h.2.2.2.2.trans (hb.mono h.2.2.2.2.size))
      have HS := Lib.hid hS
      have HS2 := Lib.hid hS2
      have hwr : IntKind.i64.wrap (i0 + i1 + (k : Int) - 1) = i0 + i1 + k - 1 := by rw [IntKind.wrap_i64]; omega
      have HO := Lib.hid (show ∀ W, Below wr.heap.size wr W → Ints W w.heap.size oa on os from fun W h => (ho.below hbelw (Nat.le_refl _)).below h hbelw.size)
      clear hS hS2
      go_wp2_with fail
      go_region_held3 (fun w' => w'.cell? ⟨w.heap.size, 0, none⟩ = some (.int .i64 i0) ∧ w'.cell? ⟨w.heap.size, 1, none⟩ = some (.int .i64 i1) ∧ w'.cell? ⟨w.heap.size, 2, none⟩ = some (.slice ga k gc) ∧ w'.cell? ⟨w.heap.size, 3, none⟩ = some (.slice oa on oc) ∧ Below wr.heap.size wr w') (first | exact HS.out _ (bdrewN (Below.refl _ _) 1) | exact HS2.out _ _ (by assumption) hb' | assumption)
          (first | (go_at_call 97; refine (ciWires_any _ _ _ _ _ _ _ _ _ H0.out H1.out (by omega)).mono ?_; rintro e w' ⟨rfl, hb'⟩) | (go_at_call 73; (try rw [hwr]); refine (l1All_any _ _ _ _ _ _ _ _ (HO.out _ (And.right (And.right (And.right (And.right (by assumption))))))).mono ?_; rintro e w' ⟨rfl, rfl⟩))
      all_goals
        rename_i hH
        have hbr := hbelw.trans (hH.2.2.2.2.mono hbelw.size)
        go_wp2_with fail
        go_ret
        exact ⟨ret_bool (by rw [HE.out, HK.out]; rfl), hbr⟩
end Go.Proofs.Ytilkgidilhgjeaa
