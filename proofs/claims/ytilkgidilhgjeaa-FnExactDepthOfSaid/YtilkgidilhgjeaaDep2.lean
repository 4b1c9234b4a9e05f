/-
  Circuits: depths, the program's way.
-/
import Derived.Test.YtilkgidilhgjeaaDep1
import Derived.BigRegion
import Derived.Deep.RegionHeld3
import Derived.Laws.OwnMore
import Derived.Deep.CutBlock
import Derived.Deep.DeepCutAuto
import Derived.StillTailTactics
import Derived.Lib.MinMax
namespace Go.Proofs.Ytilkgidilhgjeaa
open Go.RowKit
set_option linter.unusedVariables false
set_option linter.unusedSimpArgs false

/-- A list with zeros behind it. -/
def padL (V : List Int) (n : Nat) : List Int := V ++ List.replicate (n - V.length) 0
theorem padL_get {V : List Int} {n i : Nat} {x : Int} (h : V[i]? = some x) : (padL V n)[i]? = some x := by
  rw [padL, List.getElem?_append_left (List.getElem?_eq_some_iff.1 h).1, h]
theorem padL_zero {V : List Int} {n : Nat} (h : V.length < n) : padL V n = padL (V ++ [0]) n := by
  obtain ⟨m, hm⟩ : ∃ m, n - V.length = m + 1 := ⟨n - V.length - 1, by omega⟩
  have h2 : n - (V ++ [(0 : Int)]).length = m := by simp; omega
  rw [padL, padL, hm, h2, List.replicate_succ, List.append_assoc]; rfl
theorem padL_set {V : List Int} {n : Nat} (h : V.length < n) (x : Int) : (padL V n).set V.length x = padL (V ++ [x]) n := by
  obtain ⟨m, hm⟩ : ∃ m, n - V.length = m + 1 := ⟨n - V.length - 1, by omega⟩
  have h2 : n - (V ++ [x]).length = m := by simp; omega
  rw [padL, padL, hm, h2, List.replicate_succ, List.set_append_right _ _ (Nat.le_refl _), Nat.sub_self, List.set_cons_zero, List.append_assoc]; rfl
theorem padL_last {V : List Int} {n l : Nat} (h : V.length = l) (x : Int) : (padL (V ++ [x]) n)[l]? = some x := by
  subst h
  rw [padL, List.append_assoc, List.getElem?_append_right (Nat.le_refl _), Nat.sub_self]; rfl
theorem padL_again {V : List Int} {n l : Nat} (h : V.length = l) (x y : Int) : (padL (V ++ [x]) n).set l y = padL (V ++ [y]) n := by
  subst h
  rw [padL, padL, List.append_assoc, List.set_append_right _ _ (Nat.le_refl _), Nat.sub_self, List.append_assoc]
  simp
theorem padL_full {V : List Int} {n : Nat} (h : V.length = n) : padL V n = V := by rw [padL, h, Nat.sub_self]; simp
theorem dMost_two {V : List Int} {m : Int} (hm : 0 ≤ m) (h : smallL m V) (a b : Int) : dMost V [a, b] = max (atI V a) (atI V b) := by
  have h1 := smallL_at hm h a
  show mx (mx 0 (atI V a)) (atI V b) = _
  rw [mx_max, mx_max]
  omega
theorem dMost_one {V : List Int} {m : Int} (hm : 0 ≤ m) (h : smallL m V) (a : Int) : dMost V [a] = atI V a := by
  have h1 := smallL_at hm h a
  show mx 0 (atI V a) = _
  rw [mx_max]
  omega
theorem bitD_at {b : Bool} {v : Int} (h : v = if b = true then 1 else 0) (w : World) : Calls Try.prog 64 #[.bool b] w fun e w' => e = .returned (.int .i64 v) ∧ w' = w := by
  subst h
  exact (bit_any b w).mono fun e w' ⟨h1, h2⟩ => ⟨h1, h2.symm⟩
theorem dMost_max {V os : List Int} {j : Nat} {i : Int} (h : os[j]? = some i) : dMost V (os.take (j + 1)) = max (dMost V (os.take j)) (atI V i) := by rw [dMost_step h, mx_max]
set_option maxRecDepth 20000 in
set_option maxHeartbeats 8000000 in
theorem impl_DepthOf_any (w : World) (i0 i1 : Int) (ga oa : Option Addr) (gn gc on oc : Nat) (gs os : List Int) (hg : Flat 3 w w.heap.size ga gn gs) (ho : Ints w w.heap.size oa on os) :
    Calls Try.prog 20 #[circV i0 i1 ga gn gc oa on oc] w (RetNNB (depthF i0 i1 gs os) w) := by
  have hb0 : Below w.heap.size w (w.alloc (.cells #[.int .i64 i0, .int .i64 i1, .slice ga gn gc, .slice oa on oc] 43)) := (Below.refl _ _).alloc (Nat.le_refl _) _
  have hbx := boxC_new w i0 i1 ga gn gc oa on oc 43
  have hsz : w.heap.size < (w.alloc (.cells #[.int .i64 i0, .int .i64 i1, .slice ga gn gc, .slice oa on oc] 43)).heap.size := by simp
  have hg1 := (hg.below hb0 (Nat.le_refl _)).up hb0.size
  have ho1 := (ho.below hb0 (Nat.le_refl _)).up hb0.size
  have hgl := Lib.hid hg.1
  have hol := Lib.hid ho.1
  have hml := Lib.hid (gts_length gn gs hg.1)
  unfold circV
  cases hc : isCircF i0 i1 gs os
  · go_enter Try.func20, Try.ntmps20
    go_wp2_with (go_at_call 61; refine (impl_IsCircuit_any _ _ _ _ _ _ _ _ _ _ _ hg1 ho1).mono ?_; rintro e w1 ⟨rfl, hb1⟩; rw [hc])
    go_ret3
    exact ⟨by simp [depthF, hc], hb0.trans (hb1.mono hb0.size)⟩
  obtain ⟨r0, r1, r2, r3, r4, r5⟩ := isCirc_facts hgl.out hol.out hc
  have q0 := inB_iff.1 r0
  have q1 := inB_iff.1 r1
  obtain ⟨i0, rfl⟩ := Int.eq_ofNat_of_zero_le q0.1
  obtain ⟨i1, rfl⟩ := Int.eq_ofNat_of_zero_le q1.1
  have HOK : Hid (okG (gts gs) ((i0 + i1 : Nat) : Int) = true) := by show _ = _; rw [Int.natCast_add]; exact r4
  have HIN : Hid (allIn 0 (((i0 + i1 + gn : Nat) : Int) - 1) os = true) := by show _ = _; rw [Int.natCast_add, Int.natCast_add]; exact r5
  have HE : Hid (depthF (i0 : Int) (i1 : Int) gs os = (dMost (dL false (gts gs) (List.replicate (i0 + i1) 0)) os, dMost (dL true (gts gs) (List.replicate (i0 + i1) 0)) os, true)) := by show _ = _; simp [depthF, hc]
  have HR0 : Hid (inB (i0 : Int) 0 20 = true) := r0
  have HR1 : Hid (inB (i1 : Int) 0 20 = true) := r1
  clear r0 r1 r4 r5
  have hmk : ∀ W : World, ∃ w', (Instr.makeSlice 35 (.int .i64 ((i0 : Int) + i1 + gn)) (.int .i64 ((i0 : Int) + i1 + gn))).run Try.prog W = .ok (.slice (some ⟨W.heap.size, 0, none⟩) (i0 + i1 + gn) (i0 + i1 + gn)) w' ∧ OwnI W.heap.size w' (some ⟨W.heap.size, 0, none⟩) (i0 + i1 + gn) (i0 + i1 + gn) (List.replicate (i0 + i1 + gn) 0) ∧ Below W.heap.size W w' ∧ (0 < i0 + i1 + gn → W.heap.size < w'.heap.size) := by
    intro W
    obtain ⟨i0', hi, hz0, hz1, hz2⟩ := info_parts int_info
    obtain ⟨w', hrun, hown, hgr⟩ := run_make_full (P := Try.prog) W W.heap.size 35 3 i0' (.int .i64 0) 1 Try.underlying35 hi hz0 hz1 .i64 .i64 (i0 + i1 + gn) (by rw [hz2]; omega) (by unfold maxLen; omega) (Nat.le_refl _)
    rw [show (((i0 + i1 + gn : Nat)) : Int) = (i0 : Int) + i1 + gn from by omega] at hrun
    have hown2 := made_ints (by omega) hown
    refine ⟨w', hrun, hown2, (Below.refl _ _).grown hgr (Nat.le_refl _) (by simp), fun hp => ?_⟩
    obtain ⟨g, hg1, _, hg2⟩ := hown2.blk hp
    simp at hg1
    omega
  obtain ⟨F, hF⟩ := Classical.axiomOfChoice hmk
  clear hmk
  have hrun : ∀ W : World, (Instr.makeSlice 35 (.int .i64 ((i0 : Int) + i1 + gn)) (.int .i64 ((i0 : Int) + i1 + gn))).run Try.prog W = .ok (.slice (some ⟨W.heap.size, 0, none⟩) (i0 + i1 + gn) (i0 + i1 + gn)) (F W) := fun W => (hF W).1
  have HFO := Lib.hid (fun W => (hF W).2.1)
  have HFB := Lib.hid (fun W => (hF W).2.2.1)
  have HFS := Lib.hid (fun W => (hF W).2.2.2)
  clear hF
  go_enter Try.func20, Try.ntmps20
  go_wp2_with fail
  generalize (w.alloc (.cells #[.int .i64 (i0 : Int), .int .i64 (i1 : Int), .slice ga gn gc, .slice oa on oc] 43)) = w0 at *
  refine (impl_IsCircuit_any _ _ _ _ _ _ _ _ _ _ _ hg1 ho1).mono ?_
  rintro e w1 ⟨rfl, hb1⟩
  rw [hc]
  have hbw1 := hb0.trans (hb1.mono hb0.size)
  have hsz1 := Nat.lt_of_lt_of_le hsz hb1.size
  have HBX := Lib.hid (hbx.below hb1 hsz)
  obtain ⟨c0, c1, c2, c3⟩ := hbx.below hb1 hsz
  have hS : ∀ W, Below w1.heap.size w1 W → W.cell? ⟨w.heap.size, 0, none⟩ = some (.int .i64 (i0 : Int)) ∧ W.cell? ⟨w.heap.size, 1, none⟩ = some (.int .i64 (i1 : Int)) ∧ W.cell? ⟨w.heap.size, 2, none⟩ = some (.slice ga gn gc) ∧ W.cell? ⟨w.heap.size, 3, none⟩ = some (.slice oa on oc) ∧ Below w1.heap.size w1 W := fun W h => by
    have hc := HBX.out.below h hsz1
    exact ⟨hc.1, hc.2.1, hc.2.2.1, hc.2.2.2, h⟩
  have hS2 : ∀ W W', (W.cell? ⟨w.heap.size, 0, none⟩ = some (.int .i64 (i0 : Int)) ∧ W.cell? ⟨w.heap.size, 1, none⟩ = some (.int .i64 (i1 : Int)) ∧ W.cell? ⟨w.heap.size, 2, none⟩ = some (.slice ga gn gc) ∧ W.cell? ⟨w.heap.size, 3, none⟩ = some (.slice oa on oc) ∧ Below w1.heap.size w1 W) → Below W.heap.size W W' → _ := fun W W' h hb => hS W' (h.2.2.2.2.trans (hb.mono h.2.2.2.2.size))
  have HS := Lib.hid hS
  have HS2 := Lib.hid hS2
  clear hS hS2
  go_upto_region 3 with fail
  go_cut [5, 6] from 14 to 22 (fun a d wx => ∃ ga' gd' : Nat, a = .slice (some ⟨ga', 0, none⟩) (i0 + i1 + gn) (i0 + i1 + gn) ∧ d = .slice (some ⟨gd', 0, none⟩) (i0 + i1 + gn) (i0 + i1 + gn) ∧ OwnI w1.heap.size wx (some ⟨ga', 0, none⟩) (i0 + i1 + gn) (i0 + i1 + gn) (List.replicate (i0 + i1 + gn) 0) ∧ OwnI w1.heap.size wx (some ⟨gd', 0, none⟩) (i0 + i1 + gn) (i0 + i1 + gn) (List.replicate (i0 + i1 + gn) 0) ∧ (0 < i0 + i1 + gn → ga' ≠ gd') ∧ Below w1.heap.size w1 wx)
  case first =>
    go_region_held3 (fun w' => w'.cell? ⟨w.heap.size, 0, none⟩ = some (.int .i64 (i0 : Int)) ∧ w'.cell? ⟨w.heap.size, 1, none⟩ = some (.int .i64 (i1 : Int)) ∧ w'.cell? ⟨w.heap.size, 2, none⟩ = some (.slice ga gn gc) ∧ w'.cell? ⟨w.heap.size, 3, none⟩ = some (.slice oa on oc) ∧ Below w1.heap.size w1 w') (first | exact HS.out _ (bdrewN (Below.refl _ _) 1) | exact HS2.out _ _ (by assumption) hb3 | exact HS2.out _ _ (by assumption) hb2 | exact HS2.out _ _ (by assumption) (HFB.out _) | assumption)
      (first | (go_at_call 62; refine (wires_any _ _ _ _ _ _ _ _ _ HR0.out HR1.out (by omega)).mono ?_; first | (have hq := hb2; clear hq; rintro e w3 ⟨rfl, hb3⟩) | (rintro e w2 ⟨rfl, hb2⟩)))
    all_goals
      rename_i hH
      have hbe := hH.2.2.2.2
      go_wp2_with fail
      go_meet
      have z2 : w1.heap.size ≤ w2.heap.size := hb2.size
      first
        | exact ⟨_, _, rfl, rfl, (((HFO.out w2).below hb3 (Nat.le_refl _)).below (HFB.out w3) (Nat.le_refl _)).up z2, (HFO.out w3).up (Nat.le_trans z2 (Nat.le_trans (HFB.out w2).size hb3.size)), fun hp => by have h1 := HFS.out w2 hp; have h2 := hb3.size; omega, hbe⟩
        | exact ⟨_, _, rfl, rfl, ((HFO.out w3).below (HFB.out (F w3)) (Nat.le_refl _)).up (Nat.le_trans z2 hb3.size), (HFO.out (F w3)).up (Nat.le_trans z2 (Nat.le_trans hb3.size (HFB.out w3).size)), fun hp => by have h1 := HFS.out w3 hp; omega, hbe⟩
        | exact ⟨_, _, rfl, rfl, (HFO.out (F w3)).up (Nat.le_trans z2 (Nat.le_trans hb3.size (HFB.out w3).size)), ((HFO.out w3).below (HFB.out (F w3)) (Nat.le_refl _)).up (Nat.le_trans z2 hb3.size), fun hp => by have h1 := HFS.out w3 hp; omega, hbe⟩
  case rest =>
    obtain ⟨ga', gd', rfl, rfl, hA0, hD0, hne0, hbc⟩ := hcut
    clear hrun HFO HFB HFS
    have hbcw := hbw1.trans (hbc.mono hbw1.size)
    obtain ⟨e0, e1, e2, e3⟩ := HBX.out.below hbc hsz1
    go_wp2_with fail
    obtain ⟨wq, rfl⟩ : ∃ wq : World, wq = wc := ⟨_, rfl⟩
    go_loopw [26] (fun i wr => ∃ k : Nat, k ≤ gn ∧ i = .int .i64 k ∧ OwnI w1.heap.size wr (some ⟨ga', 0, none⟩) (i0 + i1 + gn) (i0 + i1 + gn) (padL (dL false ((gts gs).take k) (List.replicate (i0 + i1) 0)) (i0 + i1 + gn)) ∧ OwnI w1.heap.size wr (some ⟨gd', 0, none⟩) (i0 + i1 + gn) (i0 + i1 + gn) (padL (dL true ((gts gs).take k) (List.replicate (i0 + i1) 0)) (i0 + i1 + gn)) ∧ Below w1.heap.size w1 wr) (fun i _ => gn - (intOf i).toNat)
    case atStart =>
      have hz : padL (List.replicate (i0 + i1) (0 : Int)) (i0 + i1 + gn) = List.replicate (i0 + i1 + gn) 0 := by
        rw [padL, List.length_replicate, List.replicate_append_replicate]
        congr 1
        omega
      exact ⟨0, Nat.zero_le _, rfl, by simpa [dL, hz] using hA0, by simpa [dL, hz] using hD0, hbc⟩
    case round =>
      obtain ⟨k, hk, rfl, hA, hD, hbel⟩ := hrel
      have hbelw := hbw1.trans (hbel.mono hbw1.size)
      by_cases hlt : k < gn
      · have hne : ga' ≠ gd' := hne0 (by omega)
        have hne' : gd' ≠ ga' := fun h => hne h.symm
        have hown : i0 + i1 + k < i0 + i1 + gn := by omega
        obtain ⟨b1, o1, kx, y, z, rfl, hbb, hgk, q0, q1, q2⟩ := hg.gate hlt
        have g0 : wr.cell? ⟨b1, o1 + k * 3, none⟩ = some (.int .i64 kx) := (hbelw.cell (by exact hbb)).trans q0
        have g1 : wr.cell? ⟨b1, o1 + k * 3 + 1, none⟩ = some (.int .i64 y) := (hbelw.cell (by exact hbb)).trans q1
        have g2 : wr.cell? ⟨b1, o1 + k * 3 + 2, none⟩ = some (.int .i64 z) := (hbelw.cell (by exact hbb)).trans q2
        have hgb := okG_at _ _ _ _ HOK.out hgk
        have hkx := gateB_kind hgb
        have HSA := Lib.hid (dL_step hgk false (List.replicate (i0 + i1) 0))
        have HSD := Lib.hid (dL_step hgk true (List.replicate (i0 + i1) 0))
        have HMA := Lib.hid (dL_small false (gts gs) (i0 + i1) k (by rw [hml.out]; exact hk))
        have HMD := Lib.hid (dL_small true (gts gs) (i0 + i1) k (by rw [hml.out]; exact hk))
        obtain ⟨V, hV⟩ : ∃ V, V = dL false ((gts gs).take k) (List.replicate (i0 + i1) 0) := ⟨_, rfl⟩
        obtain ⟨D, hDe⟩ : ∃ D, D = dL true ((gts gs).take k) (List.replicate (i0 + i1) 0) := ⟨_, rfl⟩
        have hVl : V.length = i0 + i1 + k := by rw [hV, dL_length, List.length_replicate, List.length_take, hml.out]; omega
        have hDl : D.length = i0 + i1 + k := by rw [hDe, dL_length, List.length_replicate, List.length_take, hml.out]; omega
        rw [← hV] at hA HSA HMA
        rw [← hDe] at hD HSD HMD
        have HVl := Lib.hid hVl
        have HDl := Lib.hid hDl
        clear q0 q1 q2 hgk hV hDe
        obtain ⟨W2, hW2⟩ : ∃ W2, W2 = wr.alloc (.cells #[.int .i64 kx, .int .i64 y, .int .i64 z] 87) := ⟨_, rfl⟩
        have hal : Below wr.heap.size wr W2 := by rw [hW2]; exact (Below.refl _ _).alloc (Nat.le_refl _) _
        have HBG := Lib.hid (heap_alloc_new wr (.cells #[.int .i64 kx, .int .i64 y, .int .i64 z] 87))
        rw [← hW2] at HBG
        have hszg : wr.heap.size < W2.heap.size := by rw [hW2]; simp
        have HW2 := Lib.hid hW2
        clear hW2
        have e0 : W2.cell? ⟨wr.heap.size, 0, none⟩ = some (.int .i64 kx) := by rw [cell_of_row W2 _ 0 _ _ (0, 0) HBG.out]; rfl
        have e1 : W2.cell? ⟨wr.heap.size, 1, none⟩ = some (.int .i64 y) := by rw [cell_of_row W2 _ 1 _ _ (0, 0) HBG.out]; rfl
        have e2 : W2.cell? ⟨wr.heap.size, 2, none⟩ = some (.int .i64 z) := by rw [cell_of_row W2 _ 2 _ _ (0, 0) HBG.out]; rfl
        have hbel2 := hbel.trans (hal.mono hbel.size)
        have hA2 := hA.below hal (Nat.le_refl _)
        have hD2 := hD.below hal (Nat.le_refl _)
        obtain ⟨f0, f1, f2, f3⟩ := HBX.out.below hbel2 hsz1
        go_wp2_with (rw [← HW2.out])
        refine (inputs_any _ _ _ _ _ _ _ _ _ HR0.out HR1.out).mono ?_
        rintro e w4 ⟨rfl, hb4⟩
        have l0 : w4.cell? ⟨wr.heap.size, 0, none⟩ = some (.int .i64 kx) := (hb4.cell (p := ⟨_, 0, none⟩) hszg).trans e0
        have l1 : w4.cell? ⟨wr.heap.size, 1, none⟩ = some (.int .i64 y) := (hb4.cell (p := ⟨_, 1, none⟩) hszg).trans e1
        have l2 : w4.cell? ⟨wr.heap.size, 2, none⟩ = some (.int .i64 z) := (hb4.cell (p := ⟨_, 2, none⟩) hszg).trans e2
        have hbel4 := hbel2.trans (hb4.mono hbel2.size)
        have hA4 := hA2.below hb4 (Nat.le_refl _)
        have hD4 := hD2.below hb4 (Nat.le_refl _)
        have hszg4 : wr.heap.size < w4.heap.size := Nat.lt_of_lt_of_le hszg hb4.size
        obtain ⟨_, hga1, _, hga2⟩ := hA.blk (by omega)
        obtain rfl : ga' = _ := by simpa using hga1
        obtain ⟨_, hgd1, _, hgd2⟩ := hD.blk (by omega)
        obtain rfl : gd' = _ := by simpa using hgd1
        have hgA : wr.heap.size ≠ ga' := by omega
        have hgA' : ga' ≠ wr.heap.size := by omega
        have hgD : wr.heap.size ≠ gd' := by omega
        have hgD' : gd' ≠ wr.heap.size := by omega
        clear hA hD hA2 hD2 e0 e1 e2 f0 f1 f2 f3 hal HBG hga1 hgd1 g0 g1 g2 hbel2
        have hapDA : ∀ p q, rowOf (some (⟨gd', 0, none⟩ : Addr)) (i0 + i1 + gn) = some p → rowOf (some (⟨ga', 0, none⟩ : Addr)) (i0 + i1 + gn) = some q → p ≠ q := by
          intro p q hp hq
          simp only [rowOf] at hp hq
          split at hp <;> split at hq <;> simp_all
        have hapAD : ∀ p q, rowOf (some (⟨ga', 0, none⟩ : Addr)) (i0 + i1 + gn) = some p → rowOf (some (⟨gd', 0, none⟩ : Addr)) (i0 + i1 + gn) = some q → p ≠ q := by
          intro p q hp hq
          simp only [rowOf] at hp hq
          split at hp <;> split at hq <;> simp_all
        have hrA : some wr.heap.size ≠ rowOf (some (⟨ga', 0, none⟩ : Addr)) (i0 + i1 + gn) := by
          simp only [rowOf]
          split <;> simp [hgA]
        have hrD : some wr.heap.size ≠ rowOf (some (⟨gd', 0, none⟩ : Addr)) (i0 + i1 + gn) := by
          simp only [rowOf]
          split <;> simp [hgD]
        go_upto_block 2 with fail
        go_cut [] (fun wx => ∃ M1 M2 : Int, OwnI w1.heap.size wx (some ⟨ga', 0, none⟩) (i0 + i1 + gn) (i0 + i1 + gn) (padL (V ++ [M1]) (i0 + i1 + gn)) ∧ OwnI w1.heap.size wx (some ⟨gd', 0, none⟩) (i0 + i1 + gn) (i0 + i1 + gn) (padL (D ++ [M2]) (i0 + i1 + gn)) ∧ wx.cell? ⟨wr.heap.size, 0, none⟩ = some (.int .i64 kx) ∧ Below w1.heap.size w1 wx ∧ 0 ≤ M1 ∧ M1 ≤ 300 ∧ 0 ≤ M2 ∧ M2 ≤ 300 ∧ Hid (dOf false V (kx, y, z) = M1 + 1 ∧ dOf true D (kx, y, z) = M2 + dInc true kx))
        case first =>
          as_aux_lemma =>
            have ho' : (i0 : Int) + i1 + k < (i0 : Int) + i1 + gn := by omega
            have hA4z := hA4
            rw [padL_zero (show V.length < i0 + i1 + gn by rw [HVl.out]; exact hown)] at hA4z
            have hD4z := hD4
            rw [padL_zero (show D.length < i0 + i1 + gn by rw [HDl.out]; exact hown)] at hD4z
            by_cases k01 : kx = 0 ∨ kx = 1
            · obtain ⟨⟨ya, yb⟩, za, zb⟩ := gate01 hgb k01
              obtain ⟨a, rfl⟩ := Int.eq_ofNat_of_zero_le ya
              obtain ⟨b, rfl⟩ := Int.eq_ofNat_of_zero_le za
              have ha' : (a : Int) < (i0 : Int) + i1 + gn := by omega
              have hb' : (b : Int) < (i0 : Int) + i1 + gn := by omega
              obtain ⟨u, hu⟩ := get_at (i := a) hVl (by omega)
              obtain ⟨v, hv⟩ := get_at (i := b) hVl (by omega)
              obtain ⟨s, hs⟩ := get_at (i := a) hDl (by omega)
              obtain ⟨t, ht⟩ := get_at (i := b) hDl (by omega)
              have su := HMA.out _ _ hu
              have sv := HMA.out _ _ hv
              have ss := HMD.out _ _ hs
              have st := HMD.out _ _ ht
              have HFIN : Hid (dOf false V (kx, (a : Int), (b : Int)) = max u v + 1 ∧ dOf true D (kx, (a : Int), (b : Int)) = max s t + dInc true kx) := by
                refine ⟨?_, ?_⟩
                · rw [dOf, show partsL (kx, (a : Int), (b : Int)) = [(a : Int), (b : Int)] from by simp [partsL, k01], dMost_two (by omega) HMA.out, atI_get hu, atI_get hv, show dInc false kx = 1 from by simp [dInc]]
                · rw [dOf, show partsL (kx, (a : Int), (b : Int)) = [(a : Int), (b : Int)] from by simp [partsL, k01], dMost_two (by omega) HMD.out, atI_get hs, atI_get ht]
              have y0 := hA4.cell (padL_get (n := i0 + i1 + gn) hu)
              have y1 := hA4.cell (padL_get (n := i0 + i1 + gn) hv)
              have y2 := hD4.cell (padL_get (n := i0 + i1 + gn) hs)
              have y3 := hD4.cell (padL_get (n := i0 + i1 + gn) ht)
              have yo := hA4z.cell (padL_last (n := i0 + i1 + gn) HVl.out 0)
              have zo := hD4z.cell (padL_last (n := i0 + i1 + gn) HDl.out 0)
              obtain ⟨x1, x2, fA⟩ := hA4z.set (k := i0 + i1 + k) hown (max u v)
              have hDx := hD4z.other x2 hapDA
              obtain ⟨x3, x4, fD⟩ := hDx.set (k := i0 + i1 + k) hown (max s t)
              have hAx := x1.other x4 hapAD
              have hbx1 := below_append hbel4 hA4z.2.2 x2 hbel4.size
              have hbx2 := below_append hbx1 hDx.2.2 x4 hbx1.size
              have lx := x4.cell (x2.cell l0 hrA) hrD
              rw [padL_again HVl.out] at hAx
              rw [padL_again HDl.out] at x3
              have HAX := Lib.hid hAx
              have HDX := Lib.hid x3
              have HBX2 := Lib.hid hbx2
              have HLX := Lib.hid lx
              have HS0 : Hid (0 ≤ max u v ∧ max u v ≤ 300 ∧ 0 ≤ max s t ∧ max s t ≤ 300) := by refine ⟨?_, ?_, ?_, ?_⟩ <;> omega
              clear hu hv hs ht hgb hkx ya za hVl hDl hA4z hD4z x1 x2 x3 x4 hDx hAx hbx1 hbx2 lx hA4 hD4
              clear HOK HIN HE HR0 HR1 hb0 ho1 hb1 hbw1 c0 c1 c2 c3 hA0 hD0 hbc hbcw e0 e1 e2 e3 hbel4 hg hbx hg1 HBX HS HS2 HMA HSA HMD HSD hb4 hapDA hapAD hrA hrD ho hgl hol hml hsz hsz1 hc HW2 hszg hbelw hbel hszg4 hlt
              go_upto_if 37 with fail
              go_cut [37] (fun s wx => s = .bool true ∧ w4 = wx)
              case first =>
                rcases k01 with k0 | k1
                · subst k0
                  go_wp2_with fail
                  go_meet
                  exact ⟨rfl, rfl⟩
                · subst k1
                  go_wp2_with fail
                  go_meet
                  exact ⟨rfl, rfl⟩
              case rest =>
              obtain ⟨rfl, rfl⟩ := hcut
              clear k01
              go_wp2_with fail
              go_region
              all_goals
                go_wp2_with fail
                go_meet
                exact ⟨_, _, HAX.out.below (bdrewN (Below.refl _ _) 1) (Nat.le_refl _), HDX.out.below (bdrewN (Below.refl _ _) 1) (Nat.le_refl _), HLX.out, HBX2.out.trans (bdrewN (Below.refl _ _) 1), HS0.out.1, HS0.out.2.1, HS0.out.2.2.1, HS0.out.2.2.2, HFIN⟩
            by_cases k2 : kx = 2
            · subst k2
              obtain ⟨⟨ya, yb⟩, hz0⟩ := gate2 hgb
              subst hz0
              obtain ⟨a, rfl⟩ := Int.eq_ofNat_of_zero_le ya
              have ha' : (a : Int) < (i0 : Int) + i1 + gn := by omega
              obtain ⟨u, hu⟩ := get_at (i := a) hVl (by omega)
              obtain ⟨s, hs⟩ := get_at (i := a) hDl (by omega)
              have su := HMA.out _ _ hu
              have ss := HMD.out _ _ hs
              have HFIN : Hid (dOf false V (2, (a : Int), 0) = u + 1 ∧ dOf true D (2, (a : Int), 0) = s + dInc true 2) := by
                refine ⟨?_, ?_⟩
                · rw [dOf, show partsL (2, (a : Int), 0) = [(a : Int)] from by simp [partsL], dMost_one (by omega) HMA.out, atI_get hu]; rfl
                · rw [dOf, show partsL (2, (a : Int), 0) = [(a : Int)] from by simp [partsL], dMost_one (by omega) HMD.out, atI_get hs]
              have y0 := hA4.cell (padL_get (n := i0 + i1 + gn) hu)
              have y2 := hD4.cell (padL_get (n := i0 + i1 + gn) hs)
              have yo := hA4z.cell (padL_last (n := i0 + i1 + gn) HVl.out 0)
              have zo := hD4z.cell (padL_last (n := i0 + i1 + gn) HDl.out 0)
              obtain ⟨x1, x2, fA⟩ := hA4z.set (k := i0 + i1 + k) hown u
              have hDx := hD4z.other x2 hapDA
              obtain ⟨x3, x4, fD⟩ := hDx.set (k := i0 + i1 + k) hown s
              have hAx := x1.other x4 hapAD
              have hbx1 := below_append hbel4 hA4z.2.2 x2 hbel4.size
              have hbx2 := below_append hbx1 hDx.2.2 x4 hbx1.size
              have lx := x4.cell (x2.cell l0 hrA) hrD
              rw [padL_again HVl.out] at hAx
              rw [padL_again HDl.out] at x3
              have HAX := Lib.hid hAx
              have HDX := Lib.hid x3
              have HBX2 := Lib.hid hbx2
              have HLX := Lib.hid lx
              clear hu hs hgb hkx ya hVl hDl hA4z hD4z x1 x2 x3 x4 hDx hAx hbx1 hbx2 lx hA4 hD4
              go_wp2_with fail
              go_region
              all_goals
                go_wp2_with fail
                go_meet
                exact ⟨_, _, HAX.out.below (bdrewN (Below.refl _ _) 1) (Nat.le_refl _), HDX.out.below (bdrewN (Below.refl _ _) 1) (Nat.le_refl _), HLX.out, HBX2.out.trans (bdrewN (Below.refl _ _) 1), by omega, by omega, by omega, by omega, HFIN⟩
            · have hk3 : kx = 3 := by omega
              subst hk3
              have HFIN : Hid (dOf false V (3, y, z) = 0 + 1 ∧ dOf true D (3, y, z) = 0 + dInc true 3) := ⟨rfl, rfl⟩
              clear hVl hDl
              go_wp2_with fail
              go_meet
              exact ⟨0, 0, hA4z, hD4z, l0, hbel4, by omega, by omega, by omega, by omega, HFIN⟩
        case rest =>
          obtain ⟨M1, M2, hA5, hD5, l5, hb5, sA0, sA1, sD0, sD1, hfin⟩ := hcut
          clear hA4 hD4 hbel4 l0 l1 l2 hVl hDl
          obtain ⟨inc, hinc⟩ : ∃ inc, inc = dInc true kx := ⟨_, rfl⟩
          have hincb := dInc_small true kx
          rw [← hinc] at hfin hincb
          obtain ⟨hinc0, hinc1⟩ := hincb
          have HINC : Hid (inc = if (kx == 1) = true then 1 else 0) := by show _ = _; rw [hinc, dInc]; simp
          clear hinc
          obtain ⟨W5, rfl⟩ : ∃ W : World, W = wc := ⟨_, rfl⟩
          obtain ⟨t1, t2, f3⟩ := hA5.set (k := i0 + i1 + k) hown (M1 + 1)
          have y4 := hA5.cell (padL_last (n := i0 + i1 + gn) HVl.out M1)
          have hD6 := hD5.other t2 hapDA
          have hb6 := below_append hb5 hA5.2.2 t2 hb5.size
          have l6 := t2.cell l5 hrA
          rw [padL_again HVl.out] at t1
          have T1 := Lib.hid t1
          have hp0 : (0 : Int) ≤ (i0 : Int) + i1 + k := by omega
          have hp1 : (i0 : Int) + i1 + k < (i0 : Int) + i1 + gn := by omega
          have hp2 : ((i0 : Int) + i1 + k).toNat = i0 + i1 + k := by omega
          clear t1 t2 hA5 hD5 hb5 l5
          go_upto_region 15 with fail
          clear y4 f3
          generalize W5.setCell ⟨ga', i0 + i1 + k, none⟩ (.int .i64 (M1 + 1)) = W6 at *
          obtain ⟨t3, t4, f4⟩ := hD6.set (k := i0 + i1 + k) hown (M2 + inc)
          have y5 := hD6.cell (padL_last (n := i0 + i1 + gn) HDl.out M2)
          have hA7 := T1.out.other t4 hapAD
          have hb7 := below_append hb6 hD6.2.2 t4 hb6.size
          rw [padL_again HDl.out] at t3
          have T3 := Lib.hid t3
          have HA7 := Lib.hid hA7
          have HB7 := Lib.hid hb7
          clear t3 t4 hA7 hb7 hD6 hb6 T1
          refine wp_region_still_tail 10 (by kernel_rfl) (by kernel_rfl) ?_
          simp only [List.take_succ_cons, List.take_zero, List.drop_succ_cons, List.drop_zero]
          still_step
          still_step
          still_step
          still_step
          still_step
          still_step
          still_step
          still_call (bitD_at HINC.out _)
          still_step
          still_step
          refine wpStill_nil ?_
          change wpList _ _ _ _ _ W6.drew
          go_wp2_with fail
          go_roundw
          case rel => exact ⟨k + 1, by omega, by go_num, by rw [HSA.out, hfin.out.1]; exact HA7.out.below (bdrewN (Below.refl _ _) 1) (Nat.le_refl _), by rw [HSD.out, hfin.out.2]; exact T3.out.below (bdrewN (Below.refl _ _) 1) (Nat.le_refl _), HB7.out.trans (bdrewN (Below.refl _ _) 1)⟩
          case measure => simp [intOf] <;> omega
      · have hk2 : k = gn := by omega
        have HT : (gts gs).take k = gts gs := List.take_of_length_le (by rw [hml.out, hk2]; exact Nat.le_refl _)
        rw [HT] at hA hD
        have hl1 : (dL false (gts gs) (List.replicate (i0 + i1) 0)).length = i0 + i1 + gn := by rw [dL_length, List.length_replicate, hml.out]
        have hl2 : (dL true (gts gs) (List.replicate (i0 + i1) 0)).length = i0 + i1 + gn := by rw [dL_length, List.length_replicate, hml.out]
        rw [padL_full hl1] at hA
        rw [padL_full hl2] at hD
        clear HT hl1 hl2
        obtain ⟨A, hAe⟩ : ∃ A, A = dL false (gts gs) (List.replicate (i0 + i1) 0) := ⟨_, rfl⟩
        obtain ⟨D, hDe⟩ : ∃ D, D = dL true (gts gs) (List.replicate (i0 + i1) 0) := ⟨_, rfl⟩
        rw [← hAe] at hA HE
        rw [← hDe] at hD HE
        clear hAe hDe
        have hoW := (ho.below hbelw (Nat.le_refl _)).up hbelw.size
        have HIN2 := Lib.hid (allIn_iff.1 HIN.out)
        have hAi := hA.ints
        have hDi := hD.ints
        obtain ⟨e0, e1, e2, e3⟩ := HBX.out.below hbel hsz1
        clear hA hD
        obtain ⟨wq2, rfl⟩ : ∃ wq2 : World, wq2 = wr := ⟨_, rfl⟩
        go_wp2_with fail
        go_loopw [10, 11, 106] (fun m d i wx => ∃ j : Nat, j ≤ on ∧ i = .int .i64 j ∧ m = .int .i64 (dMost A (os.take j)) ∧ d = .int .i64 (dMost D (os.take j)) ∧ Below wq2.heap.size wq2 wx) (fun _ _ i _ => on - (intOf i).toNat)
        case atStart => exact ⟨0, Nat.zero_le _, rfl, rfl, rfl, Below.refl _ _⟩
        case round =>
          obtain ⟨j, j1, rfl, rfl, rfl, hbq⟩ := hrel
          by_cases hj : j < on
          · obtain ⟨b2, o2, t, rfl, hb2', ht, q2⟩ := (hoW.below hbq (Nat.le_refl _)).at hj
            have htt := HIN2.out t (List.mem_of_getElem? ht)
            obtain ⟨t, rfl⟩ := Int.eq_ofNat_of_zero_le htt.1
            have htl : (t : Int) < (i0 : Int) + i1 + gn := by omega
            obtain ⟨x, hx, q3⟩ := (hAi.below hbq (Nat.le_refl _)).at' (k := t) (by omega)
            obtain ⟨y, hy, q4⟩ := (hDi.below hbq (Nat.le_refl _)).at' (k := t) (by omega)
            simp only [Nat.zero_add] at q3 q4
            have HM1 : Hid (dMost A (os.take (j + 1)) = max (dMost A (os.take j)) x) := by show _ = _; rw [dMost_max ht, atI_get hx]
            have HM2 : Hid (dMost D (os.take (j + 1)) = max (dMost D (os.take j)) y) := by show _ = _; rw [dMost_max ht, atI_get hy]
            clear ht hx hy htt
            go_wp2_with fail
            go_quiet (fail)
            have hbd := bdrewN hbq nq
            generalize wr.drewN nq = wd at hbd ⊢
            clear q2 q3 q4
            go_wp2_with fail
            go_roundw
            case rel => exact ⟨j + 1, by omega, by go_num, by rw [HM1.out], by rw [HM2.out], hbd⟩
            case measure => simp [intOf] <;> omega
          · have hj2 : j = on := by omega
            have HT : os.take j = os := List.take_of_length_le (by rw [hol.out, hj2]; exact Nat.le_refl _)
            rw [HT]
            clear HT
            go_wp2_with fail
            go_ret3
            exact ⟨by rw [HE.out] <;> rfl, hbelw.trans (hbq.mono hbelw.size)⟩
end Go.Proofs.Ytilkgidilhgjeaa
