/-
  Circuits: depths, the reference's way.
-/
import Derived.Test.YtilkgidilhgjeaaDep0
import Derived.Test.YtilkgidilhgjeaaUsed3
import Derived.Lib.MinMax
import Derived.Deep.DeepCutAuto
namespace Go.Proofs.Ytilkgidilhgjeaa
open Go.RowKit
set_option linter.unusedVariables false
set_option linter.unusedSimpArgs false

theorem mx_max (u v : Int) : mx u v = max u v := by unfold mx; split <;> omega
/-- The greatest value of a list's items, at least 0. -/
def dMost (v ps : List Int) : Int := ps.foldl (fun m i => mx m (atI v i)) 0
theorem dMost_step {v ps : List Int} {k : Nat} {i : Int} (h : ps[k]? = some i) : dMost v (ps.take (k + 1)) = mx (dMost v (ps.take k)) (atI v i) := by
  rw [dMost, dMost, List.take_add_one, h]; simp [List.foldl_append]
def dInc (ands : Bool) (k : Int) : Int := if (!ands || k == 1) = true then 1 else 0
def dOf (ands : Bool) (v : List Int) (g : Int × Int × Int) : Int := dMost v (partsL g) + dInc ands g.1
def dL (ands : Bool) (l : List (Int × Int × Int)) (v : List Int) : List Int := l.foldl (fun v g => v ++ [dOf ands v g]) v
theorem dL_step {l : List (Int × Int × Int)} {k : Nat} {g : Int × Int × Int} (h : l[k]? = some g) (ands : Bool) (v : List Int) : dL ands (l.take (k + 1)) v = dL ands (l.take k) v ++ [dOf ands (dL ands (l.take k) v) g] := by
  rw [dL, dL, List.take_add_one, h]; simp [List.foldl_append]
theorem dL_length (ands : Bool) (l : List (Int × Int × Int)) : ∀ v : List Int, (dL ands l v).length = v.length + l.length := by
  induction l with
  | nil => intro v; rfl
  | cons g l ih => intro v; rw [show dL ands (g :: l) v = dL ands l (v ++ [dOf ands v g]) from rfl, ih]; simp; omega
theorem smallL_at {m : Int} {v : List Int} (hm : 0 ≤ m) (h : smallL m v) (i : Int) : 0 ≤ atI v i ∧ atI v i ≤ m := by
  unfold atI
  rw [List.getD_eq_getElem?_getD]
  cases hx : v[i.toNat]? with
  | none => simp; exact hm
  | some x => simpa using h _ _ hx
theorem dMost_small {m : Int} {v : List Int} (hm : 0 ≤ m) (h : smallL m v) (ps : List Int) : 0 ≤ dMost v ps ∧ dMost v ps ≤ m := by
  have : ∀ (ps : List Int) (a : Int), 0 ≤ a ∧ a ≤ m → 0 ≤ ps.foldl (fun m i => mx m (atI v i)) a ∧ ps.foldl (fun m i => mx m (atI v i)) a ≤ m := by
    intro ps
    induction ps with
    | nil => intro a ha; exact ha
    | cons p r ih => intro a ha; exact ih _ (mx_le ha (smallL_at hm h p))
  exact this ps 0 ⟨Int.le_refl _, hm⟩
theorem dInc_small (ands : Bool) (k : Int) : 0 ≤ dInc ands k ∧ dInc ands k ≤ 1 := by unfold dInc; split <;> omega
theorem dL_small (ands : Bool) (l : List (Int × Int × Int)) (n : Nat) : ∀ k : Nat, k ≤ l.length → smallL k (dL ands (l.take k) (List.replicate n 0))
  | 0, _ => by
    intro i x hx
    simp [dL] at hx
    rw [List.getElem?_replicate] at hx
    split at hx <;> simp at hx
    omega
  | k + 1, hk => by
    have ih := dL_small ands l n k (by omega)
    have hg : l[k]? = some l[k] := by simp
    rw [dL_step hg, show (((k + 1 : Nat) : Int)) = (k : Int) + 1 from by omega]
    refine smallL_snoc ih ?_
    have h1 := dMost_small (by omega) ih (partsL l[k])
    have h2 := dInc_small ands l[k].1
    unfold dOf
    omega
def depthF (i0 i1 : Int) (gs os : List Int) : Int × Int × Bool :=
  if isCircF i0 i1 gs os = true then (dMost (dL false (gts gs) (List.replicate (i0.toNat + i1.toNat) 0)) os, dMost (dL true (gts gs) (List.replicate (i0.toNat + i1.toNat) 0)) os, true) else (0, 0, false)
def RetNNB (r : Int × Int × Bool) (w : World) (e : Ending) (w' : World) : Prop := e = .returned (.tuple #[.int .i64 r.1, .int .i64 r.2.1, .bool r.2.2]) ∧ Below w.heap.size w w'
set_option maxHeartbeats 4000000 in
theorem ciDepths_any (w : World) (i0 i1 : Nat) (ga oa : Option Addr) (gn gc on oc : Nat) (gs : List Int) (ands : Bool) (hg : Flat 3 w w.heap.size ga gn gs) (h0 : i0 ≤ 20) (h1 : i1 ≤ 20) (hgn : gn ≤ 300)
    (hok : okG (gts gs) ((i0 + i1 : Nat) : Int) = true) :
    Calls Try.prog 58 #[circV (i0 : Int) (i1 : Int) ga gn gc oa on oc, .bool ands] w (RetI (dL ands (gts gs) (List.replicate (i0 + i1) 0)) w) := by
  have hb0 : Below w.heap.size w (w.alloc (.cells #[.int .i64 (i0 : Int), .int .i64 (i1 : Int), .slice ga gn gc, .slice oa on oc] 43)) := (Below.refl _ _).alloc (Nat.le_refl _) _
  have hbx := boxC_new w (i0 : Int) (i1 : Int) ga gn gc oa on oc 43
  have hsz : w.heap.size < (w.alloc (.cells #[.int .i64 (i0 : Int), .int .i64 (i1 : Int), .slice ga gn gc, .slice oa on oc] 43)).heap.size := by simp
  have HOK := Lib.hid hok
  have hml := Lib.hid (gts_length gn gs hg.1)
  have HR0 : Hid (inB (i0 : Int) 0 20 = true) := by show _ = _; rw [inB_iff]; omega
  have HR1 : Hid (inB (i1 : Int) 0 20 = true) := by show _ = _; rw [inB_iff]; omega
  have HBX := Lib.hid hbx
  clear hok
  obtain ⟨i0', hi, hz0, hz1, hz2⟩ := info_parts int_info
  unfold circV
  go_enter Try.func58, Try.ntmps58
  go_wp2_with fail
  generalize (w.alloc (.cells #[.int .i64 (i0 : Int), .int .i64 (i1 : Int), .slice ga gn gc, .slice oa on oc] 43)) = w0 at *
  clear hbx
  refine (ciInputs_any _ _ _ _ _ _ _ _ _ HR0.out HR1.out).mono ?_
  rintro e w1 ⟨rfl, hb1⟩
  have hbw1 := hb0.trans (hb1.mono hb0.size)
  have hsz1 := Nat.lt_of_lt_of_le hsz hb1.size
  have hbx1 := Lib.hid (HBX.out.below hb1 hsz)
  go_wp2_with (at_make; refine wpList_make_full _ rfl _ _ 35 rfl w1.heap.size 3 i0' (.int .i64 0) 1 Try.underlying35 hi hz0 hz1 _ _ _ _ (i0 + i1) rfl rfl (by omega) (by omega) (by rw [hz2]; omega) (by unfold maxLen; omega) (Nat.le_refl _) ?_; intro w3 hown3 hg3; obtain ⟨e0, e1, e2, e3⟩ := hbx1.out.below ((Below.refl _ _).grown hg3 (Nat.le_refl _) (by simp)) hsz1)
  replace hown3 := made_ints (by omega) hown3
  have hb3 : Below w1.heap.size w1 w3 := (Below.refl _ _).grown hg3 (Nat.le_refl _) (by simp)
  clear hi hz0 hz1 hz2 hg3
  go_loopw [5, 17] (fun out i wr => ∃ (k : Nat) (co : Option Addr) (cap : Nat), k ≤ gn ∧ i = .int .i64 k ∧ out = .slice co (i0 + i1 + k) cap ∧ OwnI w1.heap.size wr co (i0 + i1 + k) cap (dL ands ((gts gs).take k) (List.replicate (i0 + i1) 0)) ∧ Below w1.heap.size w1 wr) (fun _ i _ => gn - (intOf i).toNat)
  case atStart => exact ⟨0, _, _, Nat.zero_le _, rfl, rfl, by simpa [dL] using hown3, hb3⟩
  case round =>
    obtain ⟨k, co, cap, hk, rfl, rfl, hout, hbel⟩ := hrel
    have hbelw := hbw1.trans (hbel.mono hbw1.size)
    by_cases hlt : k < gn
    · obtain ⟨b1, o1, kx, y, z, rfl, hbb, hgk, q0, q1, q2⟩ := hg.gate hlt
      have g0 : wr.cell? ⟨b1, o1 + k * 3, none⟩ = some (.int .i64 kx) := (hbelw.cell (by exact hbb)).trans q0
      have g1 : wr.cell? ⟨b1, o1 + k * 3 + 1, none⟩ = some (.int .i64 y) := (hbelw.cell (by exact hbb)).trans q1
      have g2 : wr.cell? ⟨b1, o1 + k * 3 + 2, none⟩ = some (.int .i64 z) := (hbelw.cell (by exact hbb)).trans q2
      have hgb := okG_at _ _ _ _ HOK.out hgk
      have HPI := Lib.hid (parts_in hgb)
      have HSTEP := Lib.hid (dL_step hgk ands (List.replicate (i0 + i1) 0))
      have HSM := Lib.hid (dL_small ands (gts gs) (i0 + i1) k (by rw [hml.out]; exact hk))
      obtain ⟨V, hV⟩ : ∃ V, V = dL ands ((gts gs).take k) (List.replicate (i0 + i1) 0) := ⟨_, rfl⟩
      rw [← hV] at hout HSTEP HSM
      clear q0 q1 q2 hgk hV hgb
      obtain ⟨W2, hW2⟩ : ∃ W2, W2 = wr.alloc (.cells #[.int .i64 kx, .int .i64 y, .int .i64 z] 87) := ⟨_, rfl⟩
      have hal : Below wr.heap.size wr W2 := by rw [hW2]; exact (Below.refl _ _).alloc (Nat.le_refl _) _
      have HBG := Lib.hid (heap_alloc_new wr (.cells #[.int .i64 kx, .int .i64 y, .int .i64 z] 87))
      rw [← hW2] at HBG
      have hszg : wr.heap.size < W2.heap.size := by rw [hW2]; simp
      have HW2 := Lib.hid hW2
      clear hW2
      have e0 : W2.cell? ⟨wr.heap.size, 0, none⟩ = some (.int .i64 kx) := by rw [cell_of_row W2 _ 0 _ _ (0, 0) HBG.out]; rfl
      have e1 : W2.cell? ⟨wr.heap.size, 1, none⟩ = some (.int .i64 y) := by rw [cell_of_row W2 _ 1 _ _ (0, 0) HBG.out]; rfl
      have e2 : W2.cell? ⟨wr.heap.size, 2, none⟩ = some (.int .i64 z) := by rw [cell_of_row W2 _ 2 _ _ (0, 0) HBG.out]; rfl
      have hbel2 := hbel.trans (hal.mono hbel.size)
      have hout2 := hout.below hal (Nat.le_refl _)
      go_wp2_with (rw [← HW2.out])
      refine (ciParts_any _ _ _ _).mono ?_
      rintro e w5 ⟨pa, pn, pc, rfl, hpi, hb5⟩
      have hbel5 := hbel2.trans (hb5.mono hbel2.size)
      have hout5 := hout2.below hb5 (Nat.le_refl _)
      have l0 : w5.cell? ⟨wr.heap.size, 0, none⟩ = some (.int .i64 kx) := (hb5.cell (p := ⟨_, 0, none⟩) hszg).trans e0
      have hpl := Lib.hid hpi.1
      have hpn := hpi.le
      obtain ⟨P, hP⟩ : ∃ P, P = partsL (kx, y, z) := ⟨_, rfl⟩
      have HDO : Hid (dOf ands V (kx, y, z) = dMost V P + dInc ands kx) := by show _ = _; rw [hP, dOf]
      rw [← hP] at hpi hpl HPI
      have hVI := hout5.ints
      have hgsz : wr.heap.size < w5.heap.size := Nat.lt_of_lt_of_le hszg hb5.size
      clear hP hout hout2 e0 e1 e2 HBG hal
      go_wp2_with fail
      go_loop [8, 24] (fun m i => ∃ q : Nat, q ≤ pn ∧ i = .int .i64 q ∧ m = .int .i64 (dMost V (P.take q))) (fun _ i => pn - (intOf i).toNat)
      case atStart => exact ⟨0, Nat.zero_le _, rfl, rfl⟩
      case round =>
        obtain ⟨q, hq, rfl, rfl⟩ := hrel
        by_cases hqn : q < pn
        · obtain ⟨b3, o3, x, rfl, hbb3, hx, q3⟩ := hpi.at hqn
          have hxx := HPI.out x (List.mem_of_getElem? hx)
          obtain ⟨t, rfl⟩ := Int.eq_ofNat_of_zero_le hxx.1
          have hxt : (t : Int) < (i0 : Int) + i1 + k := by omega
          obtain ⟨b4, o4, u, rfl, hbb4, hu, q4⟩ := hVI.at (k := t) (by omega)
          have HS := Lib.hid (dMost_step (v := V) hx)
          have HU := Lib.hid (atI_get hu)
          clear hx hu hxx
          go_wp2_with (go_at_call 49; refine (l1Most_any _ _ _).mono ?_; rintro e w' ⟨rfl, rfl⟩)
          go_round
          case rel => exact ⟨q + 1, by omega, by go_num, by rw [HS.out, HU.out]⟩
          case measure => simp [intOf] <;> omega
        · obtain rfl : q = pn := by omega
          have HT : P.take q = P := List.take_of_length_le (by rw [hpl.out]; exact Nat.le_refl _)
          rw [HT]
          clear HT
          have hsm := dMost_small (by omega) HSM.out P
          obtain ⟨M, hM⟩ : ∃ M, M = dMost V P := ⟨_, rfl⟩
          rw [← hM] at HDO hsm ⊢
          clear hM
          have HKX : Hid (dInc ands kx = if (!ands || kx == 1) = true then 1 else 0) := rfl
          cases ands
          · have HD : Hid (dOf false V (kx, y, z) = M + 1) := by show _ = _; rw [HDO.out, HKX.out]; rfl
            go_wp2_with (at_builtin; refine wpList_append_i rfl _ _ rfl w1.heap.size _ _ _ _ _ rfl (by first | rfl | (simp; rfl)) hout5 (by omega) hbel5.size ?_; intro ao' cap' w4 hown4 hg4)
            have hbr4 := below_append hbel5 hout5.2.2 hg4 hbel5.size
            go_roundw
            case rel => exact ⟨k + 1, ao', cap', by omega, by go_num, by rw [Nat.add_assoc], by rw [← Nat.add_assoc, HSTEP.out, HD.out]; exact hown4, hbr4⟩
            case measure => simp [intOf] <;> omega
          · by_cases k1 : kx = 1
            · subst k1
              have HD : Hid (dOf true V (1, y, z) = M + 1) := by show _ = _; rw [HDO.out, HKX.out]; rfl
              go_wp2_with (at_builtin; refine wpList_append_i rfl _ _ rfl w1.heap.size _ _ _ _ _ rfl (by first | rfl | (simp; rfl)) hout5 (by omega) hbel5.size ?_; intro ao' cap' w4 hown4 hg4)
              have hbr4 := below_append hbel5 hout5.2.2 hg4 hbel5.size
              go_roundw
              case rel => exact ⟨k + 1, ao', cap', by omega, by go_num, by rw [Nat.add_assoc], by rw [← Nat.add_assoc, HSTEP.out, HD.out]; exact hown4, hbr4⟩
              case measure => simp [intOf] <;> omega
            · have k1' : (kx == 1) = false := by simp [k1]
              have HD : Hid (dOf true V (kx, y, z) = M) := by show _ = _; rw [HDO.out, HKX.out]; simp [k1']
              go_wp2_with (at_builtin; refine wpList_append_i rfl _ _ rfl w1.heap.size _ _ _ _ _ rfl (by first | rfl | (simp; rfl)) hout5 (by omega) hbel5.size ?_; intro ao' cap' w4 hown4 hg4)
              have hbr4 := below_append hbel5 hout5.2.2 hg4 hbel5.size
              go_roundw
              case rel => exact ⟨k + 1, ao', cap', by omega, by go_num, by rw [Nat.add_assoc], by rw [← Nat.add_assoc, HSTEP.out, HD.out]; exact hown4, hbr4⟩
              case measure => simp [intOf] <;> omega
    · obtain rfl : k = gn := by omega
      rw [List.take_of_length_le (by rw [hml.out]; exact Nat.le_refl _)] at hout
      go_wp2_with fail
      go_ret
      exact ⟨_, _, _, rfl, hout.up hbw1.size, hbelw⟩
set_option maxHeartbeats 4000000 in
theorem spec_DepthOf_any (w : World) (i0 i1 : Int) (ga oa : Option Addr) (gn gc on oc : Nat) (gs os : List Int) (hg : Flat 3 w w.heap.size ga gn gs) (ho : Ints w w.heap.size oa on os) :
    Calls Try.prog 18 #[circV i0 i1 ga gn gc oa on oc] w (RetNNB (depthF i0 i1 gs os) w) := by
  have hb0 : Below w.heap.size w (w.alloc (.cells #[.int .i64 i0, .int .i64 i1, .slice ga gn gc, .slice oa on oc] 43)) := (Below.refl _ _).alloc (Nat.le_refl _) _
  have hbx := boxC_new w i0 i1 ga gn gc oa on oc 43
  have hsz : w.heap.size < (w.alloc (.cells #[.int .i64 i0, .int .i64 i1, .slice ga gn gc, .slice oa on oc] 43)).heap.size := by simp
  have hg1 := (hg.below hb0 (Nat.le_refl _)).up hb0.size
  have ho1 := (ho.below hb0 (Nat.le_refl _)).up hb0.size
  have hgl := Lib.hid hg.1
  have hol := Lib.hid ho.1
  have hml := Lib.hid (gts_length gn gs hg.1)
  unfold circV
  cases hc : isCircF i0 i1 gs os
  · go_enter Try.func18, Try.ntmps18
    go_wp2_with (go_at_call 57; refine (ciGood_any _ _ _ _ _ _ _ _ _ _ _ hg1 ho1).mono ?_; rintro e w1 ⟨rfl, hb1⟩; rw [hc])
    go_ret3
    exact ⟨by simp [depthF, hc], hb0.trans (hb1.mono hb0.size)⟩
  obtain ⟨r0, r1, r2, r3, r4, r5⟩ := isCirc_facts hgl.out hol.out hc
  have q0 := inB_iff.1 r0
  have q1 := inB_iff.1 r1
  obtain ⟨i0, rfl⟩ := Int.eq_ofNat_of_zero_le q0.1
  obtain ⟨i1, rfl⟩ := Int.eq_ofNat_of_zero_le q1.1
  have HOK : Hid (okG (gts gs) ((i0 + i1 : Nat) : Int) = true) := by show _ = _; rw [Int.natCast_add]; exact r4
  have HIN : Hid (allIn 0 (((i0 + i1 + gn : Nat) : Int) - 1) os = true) := by show _ = _; rw [Int.natCast_add, Int.natCast_add]; exact r5
  have HE : Hid (depthF (i0 : Int) (i1 : Int) gs os = (dMost (dL false (gts gs) (List.replicate (i0 + i1) 0)) os, dMost (dL true (gts gs) (List.replicate (i0 + i1) 0)) os, true)) := by show _ = _; simp [depthF, hc]
  clear r0 r1 r4 r5
  go_enter Try.func18, Try.ntmps18
  go_wp2_with fail
  generalize (w.alloc (.cells #[.int .i64 (i0 : Int), .int .i64 (i1 : Int), .slice ga gn gc, .slice oa on oc] 43)) = w0 at *
  refine (ciGood_any _ _ _ _ _ _ _ _ _ _ _ hg1 ho1).mono ?_
  rintro e w1 ⟨rfl, hb1⟩
  rw [hc]
  have hbw1 := hb0.trans (hb1.mono hb0.size)
  have hsz1 := Nat.lt_of_lt_of_le hsz hb1.size
  have HBX := Lib.hid (hbx.below hb1 hsz)
  obtain ⟨c0, c1, c2, c3⟩ := hbx.below hb1 hsz
  have HG := Lib.hid (show ∀ W, Below w1.heap.size w1 W → Flat 3 W W.heap.size ga gn gs from fun W h => (hg.below (hbw1.trans (h.mono hbw1.size)) (Nat.le_refl _)).up (hbw1.trans (h.mono hbw1.size)).size)
  have hS : ∀ W, Below w1.heap.size w1 W → W.cell? ⟨w.heap.size, 0, none⟩ = some (.int .i64 (i0 : Int)) ∧ W.cell? ⟨w.heap.size, 1, none⟩ = some (.int .i64 (i1 : Int)) ∧ W.cell? ⟨w.heap.size, 2, none⟩ = some (.slice ga gn gc) ∧ W.cell? ⟨w.heap.size, 3, none⟩ = some (.slice oa on oc) ∧ Below w1.heap.size w1 W := fun W h => by
    have hc := HBX.out.below h hsz1
    exact ⟨hc.1, hc.2.1, hc.2.2.1, hc.2.2.2, h⟩
  have hS2 : ∀ W W', (W.cell? ⟨w.heap.size, 0, none⟩ = some (.int .i64 (i0 : Int)) ∧ W.cell? ⟨w.heap.size, 1, none⟩ = some (.int .i64 (i1 : Int)) ∧ W.cell? ⟨w.heap.size, 2, none⟩ = some (.slice ga gn gc) ∧ W.cell? ⟨w.heap.size, 3, none⟩ = some (.slice oa on oc) ∧ Below w1.heap.size w1 W) → Below W.heap.size W W' → _ := fun W W' h hb => hS W' (h.2.2.2.2.trans (hb.mono h.2.2.2.2.size))
  have HS := Lib.hid hS
  have HS2 := Lib.hid hS2
  clear hS hS2
  go_wp2_with fail
  go_region_held3 (fun w' => w'.cell? ⟨w.heap.size, 0, none⟩ = some (.int .i64 (i0 : Int)) ∧ w'.cell? ⟨w.heap.size, 1, none⟩ = some (.int .i64 (i1 : Int)) ∧ w'.cell? ⟨w.heap.size, 2, none⟩ = some (.slice ga gn gc) ∧ w'.cell? ⟨w.heap.size, 3, none⟩ = some (.slice oa on oc) ∧ Below w1.heap.size w1 w') (first | exact HS.out _ (bdrewN (Below.refl _ _) 1) | exact HS2.out _ _ (by assumption) hb3 | exact HS2.out _ _ (by assumption) hb2 | assumption)
    (first | (go_at_call 58; refine (ciDepths_any _ _ _ _ _ _ _ _ _ _ _ (HG.out _ (And.right (And.right (And.right (And.right (by assumption)))))) (by omega) (by omega) (by omega) HOK.out).mono ?_; first | (have hq := hb2; clear hq; rintro e w3 ⟨a3, n3, c3, rfl, ho3, hb3⟩; have hl3 := ho3.1; rw [dL_length, List.length_replicate, hml.out] at hl3; subst hl3) | (rintro e w2 ⟨a2, n2, c2, rfl, ho2, hb2⟩; have hl2 := ho2.1; rw [dL_length, List.length_replicate, hml.out] at hl2; subst hl2)))
  all_goals
    rename_i hH
    obtain ⟨d0, d1, d2, d3, hbe⟩ := hH
    have hbew := hbw1.trans (hbe.mono hbw1.size)
    have hA := (ho2.below hb3 (Nat.le_refl _)).ints
    have hD := ho3.ints
    obtain ⟨A, hAe⟩ : ∃ A, A = dL false (gts gs) (List.replicate (i0 + i1) 0) := ⟨_, rfl⟩
    obtain ⟨D, hDe⟩ : ∃ D, D = dL true (gts gs) (List.replicate (i0 + i1) 0) := ⟨_, rfl⟩
    rw [← hAe] at hA HE
    rw [← hDe] at hD HE
    clear hAe hDe ho2 ho3
    have hoW := ho.below hbew (Nat.le_refl _)
    have HIN2 := Lib.hid (allIn_iff.1 HIN.out)
    go_wp2_with fail
    go_loop [5, 6, 21] (fun m d i => ∃ j : Nat, j ≤ on ∧ i = .int .i64 j ∧ m = .int .i64 (dMost A (os.take j)) ∧ d = .int .i64 (dMost D (os.take j))) (fun _ _ i => on - (intOf i).toNat)
    case atStart => exact ⟨0, Nat.zero_le _, rfl, rfl, rfl⟩
    case round =>
      obtain ⟨j, j1, rfl, rfl, rfl⟩ := hrel
      by_cases hj : j < on
      · obtain ⟨b2, o2, t, rfl, hb2', ht, q2⟩ := hoW.at hj
        have htt := HIN2.out t (List.mem_of_getElem? ht)
        obtain ⟨t, rfl⟩ := Int.eq_ofNat_of_zero_le htt.1
        have htl : (t : Int) < (i0 : Int) + i1 + gn := by omega
        obtain ⟨b3, o3, x, rfl, hb3', hx, q3⟩ := hA.at (k := t) (by omega)
        obtain ⟨b4, o4, y, rfl, hb4', hy, q4⟩ := hD.at (k := t) (by omega)
        have HM1 : Hid (dMost A (os.take (j + 1)) = mx (dMost A (os.take j)) x) := by show _ = _; rw [dMost_step ht, atI_get hx]
        have HM2 : Hid (dMost D (os.take (j + 1)) = mx (dMost D (os.take j)) y) := by show _ = _; rw [dMost_step ht, atI_get hy]
        clear ht hx hy htt
        go_wp2_with (go_at_call 49; refine (l1Most_any _ _ _).mono ?_; rintro e w' ⟨rfl, rfl⟩)
        go_round
        case rel => exact ⟨j + 1, by omega, by go_num, by rw [HM1.out], by rw [HM2.out]⟩
        case measure => simp [intOf] <;> omega
      · obtain rfl : j = on := by omega
        have HT : os.take j = os := List.take_of_length_le (by rw [hol.out]; exact Nat.le_refl _)
        rw [HT]
        clear HT
        go_wp2_with fail
        go_ret3
        exact ⟨by rw [HE.out] <;> rfl, hbew⟩
end Go.Proofs.Ytilkgidilhgjeaa
