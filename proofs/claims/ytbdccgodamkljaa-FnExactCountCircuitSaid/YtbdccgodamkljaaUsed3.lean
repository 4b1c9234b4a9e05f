/-
  Circuits: the wires that are used, the reference's way, and the answers.
-/
import Derived.Test.YtbdccgodamkljaaUsed2
namespace Go.Proofs.Ytbdccgodamkljaa
open Go.RowKit
set_option linter.unusedVariables false
set_option linter.unusedSimpArgs false

def partsL (g : Int × Int × Int) : List Int := if g.1 = 0 ∨ g.1 = 1 then [g.2.1, g.2.2] else if g.1 = 2 then [g.2.1] else []
def RetPs (xs : List Int) (w : World) (e : Ending) (w' : World) : Prop := ∃ ao n c, e = .returned (.slice ao n c) ∧ Ints w' w'.heap.size ao n xs ∧ Below w.heap.size w w'
theorem ciParts_any (w : World) (k a b : Int) : Calls Try.prog 118 #[.agg #[.int .i64 k, .int .i64 a, .int .i64 b]] w (RetPs (partsL (k, a, b)) w) := by
  have hb0 : Below w.heap.size w (w.alloc (.cells #[.int .i64 k, .int .i64 a, .int .i64 b] 68)) := (Below.refl _ _).alloc (Nat.le_refl _) _
  have z0 : (w.alloc (.cells #[.int .i64 k, .int .i64 a, .int .i64 b] 68)).heap.size = w.heap.size + 1 := by simp
  have hI2 := ints_lit (w.alloc (.cells #[.int .i64 k, .int .i64 a, .int .i64 b] 68)) [a, b] (by simp)
  have hI1 := ints_lit (w.alloc (.cells #[.int .i64 k, .int .i64 a, .int .i64 b] 68)) [a] (by simp)
  rw [z0] at hI2 hI1
  have HI2 := Lib.hid hI2
  have HI1 := Lib.hid hI1
  clear hI2 hI1 z0
  by_cases k0 : k = 0
  · subst k0
    go_enter Try.func118, Try.ntmps118
    go_wp2_with fail
    go_ret
    exact ⟨_, _, _, rfl, by simpa [partsL] using HI2.out, hb0.alloc hb0.size _⟩
  by_cases k1 : k = 1
  · subst k1
    go_enter Try.func118, Try.ntmps118
    go_wp2_with fail
    go_ret
    exact ⟨_, _, _, rfl, by simpa [partsL] using HI2.out, hb0.alloc hb0.size _⟩
  by_cases k2 : k = 2
  · subst k2
    go_enter Try.func118, Try.ntmps118
    go_wp2_with fail
    go_ret
    exact ⟨_, _, _, rfl, by simpa [partsL] using HI1.out, hb0.alloc hb0.size _⟩
  · have e0 : (k == 0) = false := by simp [k0]
    have e1 : (k == 1) = false := by simp [k1]
    have e2 : (k == 2) = false := by simp [k2]
    go_enter Try.func118, Try.ntmps118
    go_wp2_with fail
    go_ret
    exact ⟨none, 0, 0, rfl, by simp only [partsL, k0, k1, k2, or_self, if_false]; exact ⟨rfl, by decide, .inl rfl⟩, hb0⟩
def setL (m : List Bool) (is : List Int) : List Bool := is.foldl (fun m i => m.set i.toNat true) m
theorem setL_length (is : List Int) : ∀ m : List Bool, (setL m is).length = m.length := by
  induction is with
  | nil => intro m; rfl
  | cons x r ih => intro m; rw [show setL m (x :: r) = setL (m.set x.toNat true) r from rfl, ih]; simp
theorem setL_step {m : List Bool} {is : List Int} {k : Nat} {x : Int} (h : is[k]? = some x) : setL m (is.take (k + 1)) = (setL m (is.take k)).set x.toNat true := by
  rw [setL, setL, List.take_add_one, h]; simp [List.foldl_append]
theorem markG_parts {m : List Bool} {own : Nat} {g : Int × Int × Int} (h : m.getD own false = true) : markG m own g = setL m (partsL g) := by
  simp only [markG, h, if_true, partsL]
  split
  · rfl
  · split <;> rfl
theorem put_tp {m : List Bool} {j : Nat} (h : j < m.length) : putL (tp 0 m) (j : Int) = tp 0 (m.set j true) := by
  have := putL_tp m 0 j h
  simpa using this
theorem has_tp {m : List Bool} {j : Nat} {b : Bool} (h : m[j]? = some b) : (tp 0 m).contains (j : Int) = b := by
  have := tp_has m 0 j b h
  simpa using this
theorem parts_in {own : Int} {g : Int × Int × Int} (h : gateB own g = true) : ∀ x ∈ partsL g, 0 ≤ x ∧ x < own := by
  obtain ⟨k, a, b⟩ := g
  have hk := gateB_kind h
  simp at hk
  intro x hx
  rcases (show k = 0 ∨ k = 1 ∨ k = 2 ∨ k = 3 by omega) with rfl | rfl | rfl | rfl
  · obtain ⟨p, q⟩ := gate01 h (by simp)
    simp [partsL] at hx
    rcases hx with rfl | rfl
    · exact p
    · exact q
  · obtain ⟨p, q⟩ := gate01 h (by simp)
    simp [partsL] at hx
    rcases hx with rfl | rfl
    · exact p
    · exact q
  · obtain ⟨p, q⟩ := gate2 h
    simp [partsL] at hx
    subst hx
    exact p
  · simp [partsL] at hx
set_option maxHeartbeats 1600000 in
theorem ciUsed_any (w : World) (i0 i1 : Nat) (ga oa : Option Addr) (gn gc on oc : Nat) (gs os : List Int) (hg : Flat 3 w w.heap.size ga gn gs) (ho : Ints w w.heap.size oa on os) (h0 : i0 ≤ 20) (h1 : i1 ≤ 20) (hgn : gn ≤ 300) (hon : on ≤ 40)
    (hok : okG (gts gs) ((i0 + i1 : Nat) : Int) = true) (hin : allIn 0 (((i0 + i1 + gn : Nat) : Int) - 1) os = true) :
    Calls Try.prog 99 #[circV (i0 : Int) (i1 : Int) ga gn gc oa on oc] w (RetI (tp 0 (usedM (i0 + i1) (gts gs) os)) w) := by
  have hb0 : Below w.heap.size w (w.alloc (.cells #[.int .i64 (i0 : Int), .int .i64 (i1 : Int), .slice ga gn gc, .slice oa on oc] 30)) := (Below.refl _ _).alloc (Nat.le_refl _) _
  have hbx := boxC_new w (i0 : Int) (i1 : Int) ga gn gc oa on oc 30
  have hsz : w.heap.size < (w.alloc (.cells #[.int .i64 (i0 : Int), .int .i64 (i1 : Int), .slice ga gn gc, .slice oa on oc] 30)).heap.size := by simp
  have HOK := Lib.hid hok
  have HIN := Lib.hid (allIn_iff.1 hin)
  have hol := Lib.hid ho.1
  have hml := Lib.hid (gts_length gn gs hg.1)
  have HR0 : Hid (inB (i0 : Int) 0 20 = true) := by show _ = _; rw [inB_iff]; omega
  have HR1 : Hid (inB (i1 : Int) 0 20 = true) := by show _ = _; rw [inB_iff]; omega
  have HBX := Lib.hid hbx
  clear hok hin
  unfold circV
  go_enter Try.func99, Try.ntmps99
  go_wp2_with fail
  generalize (w.alloc (.cells #[.int .i64 (i0 : Int), .int .i64 (i1 : Int), .slice ga gn gc, .slice oa on oc] 30)) = w0 at *
  clear hbx
  go_loopw [3, 12] (fun out i wr => ∃ (k : Nat) (co : Option Addr) (m cap : Nat), k ≤ on ∧ i = .int .i64 k ∧ out = .slice co m cap ∧ m ≤ 340 ∧ OwnI w0.heap.size wr co m cap (tp 0 (outsM (i0 + i1 + gn) (os.take k))) ∧ Below w0.heap.size w0 wr) (fun _ i _ => on - (intOf i).toNat)
  case atStart => exact ⟨0, _, 0, 0, Nat.zero_le _, rfl, rfl, by omega, by simp only [List.take_zero]; rw [show outsM (i0 + i1 + gn) [] = List.replicate (i0 + i1 + gn) false from rfl, tp_false]; exact OwnI.nil _ _ _, Below.refl _ _⟩
  case round =>
    obtain ⟨k, co, m, cap, hk, rfl, rfl, hm, hout, hbel⟩ := hrel
    have hbelw := hb0.trans (hbel.mono hb0.size)
    by_cases hlt : k < on
    · obtain ⟨b1, o1, x, rfl, hbb, hx, q1⟩ := ho.at hlt
      have hxx := HIN.out x (List.mem_of_getElem? hx)
      obtain ⟨j, rfl⟩ := Int.eq_ofNat_of_zero_le hxx.1
      have g1 : wr.cell? ⟨b1, o1 + k, none⟩ = some (.int .i64 (j : Int)) := (hbelw.cell (by exact hbb)).trans q1
      have HS := Lib.hid (outsM_step (n := i0 + i1 + gn) hx)
      have HPT := Lib.hid (put_tp (m := outsM (i0 + i1 + gn) (os.take k)) (j := j) (by rw [outsM_length]; omega))
      have HLN := Lib.hid (tp_length 0 (outsM (i0 + i1 + gn) (os.take (k + 1))))
      clear hx q1 hxx
      go_wp2_with fail
      refine (l1Put_any _ w0.heap.size _ _ _ _ _ hout hbel.size (by omega)).mono ?_
      rintro e w2 ⟨co2, m2, cap2, rfl, hout2, hb2⟩
      rw [HPT.out, show (j : Nat) = ((j : Int)).toNat from by simp, ← HS.out] at hout2
      have hm2 : m2 ≤ 340 := by
        have a1 := hout2.1
        have a2 := HLN.out
        rw [outsM_length] at a2
        omega
      go_wp2_with fail
      go_roundw
      case rel => exact ⟨k + 1, co2, m2, cap2, by omega, by go_num, rfl, hm2, hout2, hbel.trans (hb2.mono hbel.size)⟩
      case measure => simp [intOf] <;> omega
    · obtain rfl : k = on := by omega
      rw [List.take_of_length_le (by rw [hol.out]; exact Nat.le_refl _)] at hout
      obtain ⟨e0, e1, e2, e3⟩ := HBX.out.below hbel hsz
      go_wp2_with fail
      obtain ⟨wq, rfl⟩ : ∃ wq : World, wq = wr := ⟨_, rfl⟩
      go_loopw [3, 6] (fun out i wr => ∃ (j : Nat) (M : List Bool) (co : Option Addr) (m cap : Nat), j ≤ gn ∧ i = .int .i64 ((j : Int) - 1) ∧ out = .slice co m cap ∧ m ≤ 340 ∧ OwnI w0.heap.size wr co m cap (tp 0 M) ∧ M.length = i0 + i1 + gn ∧ Hid (backK (gts gs) (i0 + i1) j M = usedM (i0 + i1) (gts gs) os) ∧ Below w0.heap.size w0 wr) (fun _ i _ => (intOf i + 1).toNat)
      case atStart => exact ⟨gn, _, _, _, _, Nat.le_refl _, rfl, rfl, hm, hout, outsM_length _ _, by show _ = _; rw [usedM, hml.out], hbel⟩
      case round =>
        obtain ⟨j, M, co, m, cap, hj, rfl, rfl, hm, hout, hML, hfin, hbr⟩ := hrel
        have hbrw := hb0.trans (hbr.mono hb0.size)
        obtain ⟨e0, e1, e2, e3⟩ := HBX.out.below hbr hsz
        by_cases hp : 0 < j
        · obtain ⟨j, rfl⟩ : ∃ q, j = q + 1 := ⟨j - 1, by omega⟩
          obtain ⟨b2, o2, kx, y, z, rfl, hbb2, hgk, q0, q1, q2⟩ := hg.gate (k := j) (by omega)
          have hgb := okG_at _ _ _ _ HOK.out hgk
          have HPI := Lib.hid (parts_in hgb)
          have HSTEP : Hid (backK (gts gs) (i0 + i1) (j + 1) M = backK (gts gs) (i0 + i1) j (markG M (i0 + i1 + j) (kx, y, z))) := by
            show _ = _
            rw [backK, show (gts gs).getD j (0, 0, 0) = (kx, y, z) from by simp [List.getD, hgk]]
          obtain ⟨mb, hmb⟩ := get_at (i := i0 + i1 + j) hML (by omega)
          have HMB : Hid (M.getD (i0 + i1 + j) false = mb) := by show _ = _; simp [List.getD, hmb]
          have HHT : Hid ((tp 0 M).contains ((i0 : Int) + i1 + j) = mb) := by show _ = _; rw [← has_tp hmb, Int.natCast_add, Int.natCast_add]
          clear hgk hmb hgb
          go_wp2_with fail
          refine (ciInputs_any _ _ _ _ _ _ _ _ _ HR0.out HR1.out).mono ?_
          rintro e w4 ⟨rfl, hb4⟩
          have hbr4 := hbr.trans (hb4.mono hbr.size)
          have hbrw4 := hb0.trans (hbr4.mono hb0.size)
          have hout4 := hout.below hb4 (Nat.le_refl _)
          have hI4 := Lib.hid hout4.ints
          obtain ⟨f0, f1, f2, f3⟩ := HBX.out.below hbr4 hsz
          have g0 : w4.cell? ⟨b2, o2 + j * 3, none⟩ = some (.int .i64 kx) := (hbrw4.cell (by exact hbb2)).trans q0
          have g1 : w4.cell? ⟨b2, o2 + j * 3 + 1, none⟩ = some (.int .i64 y) := (hbrw4.cell (by exact hbb2)).trans q1
          have g2 : w4.cell? ⟨b2, o2 + j * 3 + 2, none⟩ = some (.int .i64 z) := (hbrw4.cell (by exact hbb2)).trans q2
          clear e0 e1 e2 e3 q0 q1 q2 hout
          cases mb
          · have HG : Hid (markG M (i0 + i1 + j) (kx, y, z) = M) := by show _ = _; simp only [markG, HMB.out]; rfl
            go_wp2_with (go_at_call 124; refine (l1Has_any _ _ _ _ _ _ _ hI4.out).mono ?_; rintro e w' ⟨rfl, rfl⟩; rw [HHT.out])
            go_roundw
            case rel => exact ⟨j, M, co, m, cap, by omega, by go_num, rfl, hm, hout4, hML, by show _ = _; rw [← hfin.out, HSTEP.out, HG.out], hbr4⟩
            case measure => simp [intOf] <;> omega
          · have HG := Lib.hid (markG_parts (g := (kx, y, z)) HMB.out)
            go_wp2_with (go_at_call 124; refine (l1Has_any _ _ _ _ _ _ _ hI4.out).mono ?_; rintro e w' ⟨rfl, rfl⟩; rw [HHT.out])
            refine (ciParts_any _ _ _ _).mono ?_
            rintro e w5 ⟨pa, pn, pc, rfl, hpi, hb5⟩
            have hbr5 := hbr4.trans (hb5.mono hbr4.size)
            have hout5 := hout4.below hb5 (Nat.le_refl _)
            have hpl := Lib.hid hpi.1
            have hpn := hpi.le
            obtain ⟨P, hP⟩ : ∃ P, P = partsL (kx, y, z) := ⟨_, rfl⟩
            rw [← hP] at hpi hpl HPI HG
            clear hP hout4 hI4 f0 f1 f2 f3 g0 g1 g2
            go_wp2_with fail
            obtain ⟨wq2, rfl⟩ : ∃ wq : World, wq = w5 := ⟨_, rfl⟩
            go_loopw [3, 41] (fun out i wr => ∃ (q : Nat) (co : Option Addr) (m cap : Nat), q ≤ pn ∧ i = .int .i64 q ∧ out = .slice co m cap ∧ m ≤ 340 ∧ OwnI w0.heap.size wr co m cap (tp 0 (setL M (P.take q))) ∧ Below wq2.heap.size wq2 wr) (fun _ i _ => pn - (intOf i).toNat)
            case atStart => exact ⟨0, _, _, _, Nat.zero_le _, rfl, rfl, hm, by simpa [setL] using hout5, Below.refl _ _⟩
            case round =>
              obtain ⟨q, co, m, cap, hq, rfl, rfl, hm, hout, hb6⟩ := hrel
              have hb06 := hbr5.trans (hb6.mono hbr5.size)
              by_cases hqn : q < pn
              · obtain ⟨b3, o3, x, rfl, hbb3, hx, q3⟩ := hpi.at hqn
                have hxx := HPI.out x (List.mem_of_getElem? hx)
                obtain ⟨t, rfl⟩ := Int.eq_ofNat_of_zero_le hxx.1
                have g3 : wr.cell? ⟨b3, o3 + q, none⟩ = some (.int .i64 (t : Int)) := (hb6.cell (by exact hbb3)).trans q3
                have HS := Lib.hid (setL_step (m := M) hx)
                have HPT := Lib.hid (put_tp (m := setL M (P.take q)) (j := t) (by rw [setL_length, hML]; omega))
                have HLN := Lib.hid (tp_length 0 (setL M (P.take (q + 1))))
                clear hx q3 hxx
                go_wp2_with fail
                refine (l1Put_any _ w0.heap.size _ _ _ _ _ hout hb06.size (by omega)).mono ?_
                rintro e w2 ⟨co2, m2, cap2, rfl, hout2, hb2⟩
                rw [HPT.out, show (t : Nat) = ((t : Int)).toNat from by simp, ← HS.out] at hout2
                have hm2 : m2 ≤ 340 := by
                  have a1 := hout2.1
                  have a2 := HLN.out
                  rw [setL_length, hML] at a2
                  omega
                go_wp2_with fail
                go_roundw
                case rel => exact ⟨q + 1, co2, m2, cap2, by omega, by go_num, rfl, hm2, hout2, hb6.trans (hb2.mono hb6.size)⟩
                case measure => simp [intOf] <;> omega
              · obtain rfl : q = pn := by omega
                rw [List.take_of_length_le (by rw [hpl.out]; exact Nat.le_refl _), ← HG.out] at hout
                go_wp2_with fail
                go_roundw
                case rel => exact ⟨j, _, co, m, cap, by omega, by go_num, rfl, hm, hout, by rw [markG_length]; exact hML, by show _ = _; rw [← hfin.out, HSTEP.out], hb06⟩
                case measure => simp [intOf] <;> omega
        · obtain rfl : j = 0 := by omega
          go_wp2_with fail
          go_ret
          exact ⟨_, _, _, rfl, by rw [← hfin.out]; exact hout.up hb0.size, hbrw⟩
theorem backK_length (l : List (Int × Int × Int)) (n0 : Nat) : ∀ (k : Nat) (m : List Bool), (backK l n0 k m).length = m.length
  | 0, _ => rfl
  | k + 1, m => by rw [backK, backK_length l n0 k, markG_length]
theorem usedM_length (n0 : Nat) (l : List (Int × Int × Int)) (os : List Int) : (usedM n0 l os).length = n0 + l.length := by
  rw [usedM, backK_length, outsM_length]
def usedF (i0 i1 : Int) (gs os : List Int) : List Int × Bool := if isCircF i0 i1 gs os = true then (tp 0 (usedM (i0.toNat + i1.toNat) (gts gs) os), true) else ([], false)
theorem spec_UsedWires_any (w : World) (i0 i1 : Int) (ga oa : Option Addr) (gn gc on oc : Nat) (gs os : List Int) (hg : Flat 3 w w.heap.size ga gn gs) (ho : Ints w w.heap.size oa on os) :
    Calls Try.prog 48 #[circV i0 i1 ga gn gc oa on oc] w (RetIB (usedF i0 i1 gs os) w) := by
  have hb0 : Below w.heap.size w (w.alloc (.cells #[.int .i64 i0, .int .i64 i1, .slice ga gn gc, .slice oa on oc] 30)) := (Below.refl _ _).alloc (Nat.le_refl _) _
  have hbx := boxC_new w i0 i1 ga gn gc oa on oc 30
  have hsz : w.heap.size < (w.alloc (.cells #[.int .i64 i0, .int .i64 i1, .slice ga gn gc, .slice oa on oc] 30)).heap.size := by simp
  have hg1 := (hg.below hb0 (Nat.le_refl _)).up hb0.size
  have ho1 := (ho.below hb0 (Nat.le_refl _)).up hb0.size
  have hgl := Lib.hid hg.1
  have hol := Lib.hid ho.1
  unfold circV
  cases hc : isCircF i0 i1 gs os
  · go_enter Try.func48, Try.ntmps48
    go_wp2_with (go_at_call 54; refine (ciGood_any _ _ _ _ _ _ _ _ _ _ _ hg1 ho1).mono ?_; rintro e w1 ⟨rfl, hb1⟩; rw [hc])
    go_ret2
    exact ⟨none, 0, 0, by simp [usedF, hc], by simpa [usedF, hc] using OwnI.nil _ _ _, hb0.trans (hb1.mono hb0.size)⟩
  obtain ⟨r0, r1, r2, r3, r4, r5⟩ := isCirc_facts hgl.out hol.out hc
  have q0 := inB_iff.1 r0
  have q1 := inB_iff.1 r1
  obtain ⟨i0, rfl⟩ := Int.eq_ofNat_of_zero_le q0.1
  obtain ⟨i1, rfl⟩ := Int.eq_ofNat_of_zero_le q1.1
  have HOK : Hid (okG (gts gs) ((i0 + i1 : Nat) : Int) = true) := by show _ = _; rw [Int.natCast_add]; exact r4
  have HIN : Hid (allIn 0 (((i0 + i1 + gn : Nat) : Int) - 1) os = true) := by show _ = _; rw [Int.natCast_add, Int.natCast_add]; exact r5
  have HE : Hid (usedF (i0 : Int) (i1 : Int) gs os = (tp 0 (usedM (i0 + i1) (gts gs) os), true)) := by show _ = _; simp [usedF, hc]
  clear r0 r1 r4 r5
  go_enter Try.func48, Try.ntmps48
  go_wp2_with fail
  generalize (w.alloc (.cells #[.int .i64 (i0 : Int), .int .i64 (i1 : Int), .slice ga gn gc, .slice oa on oc] 30)) = w0 at *
  refine (ciGood_any _ _ _ _ _ _ _ _ _ _ _ hg1 ho1).mono ?_
  rintro e w1 ⟨rfl, hb1⟩
  rw [hc]
  have hbw1 := hb0.trans (hb1.mono hb0.size)
  obtain ⟨c0, c1, c2, c3⟩ := hbx.below hb1 hsz
  go_wp2_with fail
  refine (ciUsed_any _ _ _ _ _ _ _ _ _ _ _ ((hg1.below hb1 (Nat.le_refl _)).up hb1.size) ((ho1.below hb1 (Nat.le_refl _)).up hb1.size) (by omega) (by omega) r2 r3 HOK.out HIN.out).mono ?_
  rintro e w2 ⟨a2, n2, c2, rfl, ho2, hb2⟩
  go_wp2_with fail
  go_ret2
  exact ⟨_, _, _, by rw [HE.out]; rfl, by rw [HE.out]; exact ho2.up hbw1.size, hbw1.trans (hb2.mono hbw1.size)⟩
theorem impl_UsedWires_any (w : World) (i0 i1 : Int) (ga oa : Option Addr) (gn gc on oc : Nat) (gs os : List Int) (hg : Flat 3 w w.heap.size ga gn gs) (ho : Ints w w.heap.size oa on os) :
    Calls Try.prog 49 #[circV i0 i1 ga gn gc oa on oc] w (RetIB (usedF i0 i1 gs os) w) := by
  have hb0 : Below w.heap.size w (w.alloc (.cells #[.int .i64 i0, .int .i64 i1, .slice ga gn gc, .slice oa on oc] 30)) := (Below.refl _ _).alloc (Nat.le_refl _) _
  have hbx := boxC_new w i0 i1 ga gn gc oa on oc 30
  have hsz : w.heap.size < (w.alloc (.cells #[.int .i64 i0, .int .i64 i1, .slice ga gn gc, .slice oa on oc] 30)).heap.size := by simp
  have hg1 := (hg.below hb0 (Nat.le_refl _)).up hb0.size
  have ho1 := (ho.below hb0 (Nat.le_refl _)).up hb0.size
  have hgl := Lib.hid hg.1
  have hol := Lib.hid ho.1
  have hml := Lib.hid (gts_length gn gs hg.1)
  unfold circV
  cases hc : isCircF i0 i1 gs os
  · go_enter Try.func49, Try.ntmps49
    go_wp2_with (go_at_call 18; refine (impl_IsCircuit_any _ _ _ _ _ _ _ _ _ _ _ hg1 ho1).mono ?_; rintro e w1 ⟨rfl, hb1⟩; rw [hc])
    go_ret2
    exact ⟨none, 0, 0, by simp [usedF, hc], by simpa [usedF, hc] using OwnI.nil _ _ _, hb0.trans (hb1.mono hb0.size)⟩
  obtain ⟨r0, r1, r2, r3, r4, r5⟩ := isCirc_facts hgl.out hol.out hc
  have q0 := inB_iff.1 r0
  have q1 := inB_iff.1 r1
  obtain ⟨i0, rfl⟩ := Int.eq_ofNat_of_zero_le q0.1
  obtain ⟨i1, rfl⟩ := Int.eq_ofNat_of_zero_le q1.1
  have HOK : Hid (okG (gts gs) ((i0 + i1 : Nat) : Int) = true) := by show _ = _; rw [Int.natCast_add]; exact r4
  have HIN : Hid (allIn 0 (((i0 + i1 + gn : Nat) : Int) - 1) os = true) := by show _ = _; rw [Int.natCast_add, Int.natCast_add]; exact r5
  have HE : Hid (usedF (i0 : Int) (i1 : Int) gs os = (tp 0 (usedM (i0 + i1) (gts gs) os), true)) := by show _ = _; simp [usedF, hc]
  clear r0 r1 r4 r5
  go_enter Try.func49, Try.ntmps49
  go_wp2_with fail
  generalize (w.alloc (.cells #[.int .i64 (i0 : Int), .int .i64 (i1 : Int), .slice ga gn gc, .slice oa on oc] 30)) = w0 at *
  refine (impl_IsCircuit_any _ _ _ _ _ _ _ _ _ _ _ hg1 ho1).mono ?_
  rintro e w1 ⟨rfl, hb1⟩
  rw [hc]
  have hbw1 := hb0.trans (hb1.mono hb0.size)
  have hb1' : Below w0.heap.size w0 (w1.alloc (.cells #[] 3)) := hb1.alloc hb1.size _
  obtain ⟨c0, c1, c2, c3⟩ := hbx.below hb1 hsz
  have hbx2 := Lib.hid (hbx.below hb1' hsz)
  have hbw1' := hb0.trans (hb1'.mono hb0.size)
  have hg2 := (hg.below hbw1' (Nat.le_refl _)).up hbw1'.size
  have ho2 := (ho.below hbw1' (Nat.le_refl _)).up hbw1'.size
  obtain ⟨W2, hW2⟩ : ∃ W2, W2 = w1.alloc (.cells #[] 3) := ⟨_, rfl⟩
  rw [← hW2] at hb1' hbx2 hbw1' hg2 ho2
  have HW2 := Lib.hid hW2
  clear hW2
  obtain ⟨f0, f1, f2, f3⟩ := hbx2.out
  go_wp2_with (rw [← HW2.out])
  refine (used_any _ _ _ _ _ _ _ _ _ _ _ hg2 ho2 (by omega) (by omega) r2 r3 HOK.out HIN.out).mono ?_
  rintro e w3 ⟨a3, n3, c3, rfl, hm3, hb3⟩
  have hbw3 := hbw1'.trans (hb3.mono hbw1'.size)
  have hn340 : n3 ≤ 340 := by
    have a1 := hm3.1
    rw [usedM_length, hml.out] at a1
    omega
  obtain ⟨M, hM⟩ : ∃ M, M = usedM (i0 + i1) (gts gs) os := ⟨_, rfl⟩
  rw [← hM] at hm3 HE
  clear hM
  have hml3 := Lib.hid hm3.1
  have hnl := hm3.le
  go_wp2_with fail
  go_loopw [4, 14] (fun out i wr => ∃ (j : Nat) (co : Option Addr) (m cap : Nat), j ≤ n3 ∧ m ≤ j ∧ i = .int .i64 j ∧ out = .slice co m cap ∧ OwnI w3.heap.size wr co m cap (tp 0 (M.take j)) ∧ Below w3.heap.size w3 wr) (fun _ i _ => n3 - (intOf i).toNat)
  case atStart => exact ⟨0, _, 0, 0, by omega, by omega, rfl, rfl, OwnI.nil _ _ _, Below.refl _ _⟩
  case round =>
    obtain ⟨j, co, m, cap, j1, j2, rfl, rfl, hout, hbr⟩ := hrel
    have hmk := hm3.below hbr (Nat.le_refl _)
    by_cases hj : j < n3
    · obtain ⟨g, rfl, _, _⟩ := hm3.blk (by omega)
      obtain ⟨u, hu⟩ := get_at (i := j) hml3.out hj
      have y2 := hmk.cell hu
      have HT := Lib.hid (tp_take hu)
      clear hu
      cases u
      · go_wp2_with fail
        go_roundw
        case rel => exact ⟨j + 1, co, m, cap, by omega, by omega, by go_num, rfl, by rw [HT.out]; simpa using hout, hbr⟩
        case measure => simp [intOf] <;> omega
      · go_wp2_with (at_builtin; refine wpList_append_i rfl _ _ rfl w3.heap.size _ _ _ _ _ rfl (by first | rfl | (simp; rfl)) hout (by omega) hbr.size ?_; intro ao' cap' w4 hown4 hg4)
        have hbr4 := below_append hbr hout.2.2 hg4 hbr.size
        go_roundw
        case rel => exact ⟨j + 1, ao', m + 1, cap', by omega, by omega, by go_num, rfl, by rw [HT.out]; simpa using hown4, hbr4⟩
        case measure => simp [intOf] <;> omega
    · obtain rfl : j = n3 := by omega
      rw [List.take_of_length_le (by rw [hml3.out]; exact Nat.le_refl _)] at hout
      go_wp2_with fail
      go_ret2
      exact ⟨_, _, _, by rw [HE.out]; rfl, by rw [HE.out]; exact hout.up hbw3.size, hbw3.trans (hbr.mono hbw3.size)⟩
end Go.Proofs.Ytbdccgodamkljaa
