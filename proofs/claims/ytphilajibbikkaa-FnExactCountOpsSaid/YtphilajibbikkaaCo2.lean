/-
  The language: the numbers of lines of all operations, both ways.
-/
import Derived.Test.YtphilajibbikkaaCo1
import Derived.Test.YtphilajibbikkaaOw1
namespace Go.Proofs.Ytphilajibbikkaa
open Go.RowKit
set_option linter.unusedVariables false
set_option linter.unusedSimpArgs false

theorem boundC_at {l : List Int} {k i : Nat} (h : boundC l k) (hi : l[i]? = some (l.getD i 0)) : 0 ≤ l.getD i 0 ∧ l.getD i 0 ≤ k := h i _ hi
theorem good_len {ls : List Ln} (hg : laGoodF ls = true) : ls.length ≤ 30 := by
  unfold laGoodF at hg
  rw [Bool.and_eq_true] at hg
  simpa using hg.1
theorem made_row {w : World} {B g : Nat} (h : w.ownsRow B 3 1 (.slice (some ⟨g, 0, none⟩) 10 10) 10 (madeCells (Value.int .i64 0).cells (10 * 1)).toList) : w.ownsRow B 3 1 (.slice (some ⟨g, 0, none⟩) 10 10) 10 ((List.replicate 10 (0 : Int)).map (Value.int .i64)) := by
  rw [show (Value.int IntKind.i64 0).cells = #[.int .i64 0] from rfl, toList_madeCells_one] at h
  simpa using h
theorem row_lt {w : World} {B g : Nat} {cs : List Value} (h : w.ownsRow B 3 1 (.slice (some ⟨g, 0, none⟩) 10 10) 10 cs) : g < w.heap.size := by
  rcases h.2 with ⟨h0, _⟩ | ⟨g', cap', cur, hv, _, hb, _⟩
  · cases h0
  · cases hv
    exact (Array.getElem?_eq_some_iff.1 hb).1
set_option maxRecDepth 100000 in
set_option maxHeartbeats 8000000 in
theorem impl_CountOps_any (w : World) (ao : Option Addr) (n c : Nat) (ls : List Ln) (h : Lns w w.heap.size ao n ls) (hs : okS ls) (hnc : n ≤ c) :
    Calls Try.prog 30 #[.slice ao n c] w (RetIB (countOpsF ls) w) := by
  have hn := h.le
  have hl := Lib.hid h.1
  obtain ⟨i0, hi, hz0, hz1, hz2⟩ := info_parts int_info
  cases hg : laGoodF ls
  · have HF : Hid (countOpsF ls = ([], false)) := by show _ = _; unfold countOpsF; rw [hg]; simp
    have HG := Lib.hid hg
    clear hg
    go_enter Try.func30, Try.ntmps30
    go_wp2_with fail
    refine (impl_IsProgram_any _ _ _ _ _ h hs hnc).mono ?_
    rintro e w1 ⟨rfl, hb1⟩
    rw [HG.out]
    go_wp2_with fail
    go_ret2
    exact RetIB.eq HF.out (OwnI.nil _ _ _) hb1
  have HF : Hid (countOpsF ls = (countsOf ls, true)) := by show _ = _; unfold countOpsF; rw [if_pos hg]
  have h30 := good_len hg
  rw [hl.out] at h30
  have HG := Lib.hid hg
  clear hg
  go_enter Try.func30, Try.ntmps30
  go_wp2_with fail
  refine (impl_IsProgram_any _ _ _ _ _ h hs hnc).mono ?_
  rintro e w1 ⟨rfl, hb1⟩
  rw [HG.out]
  go_wp2_with (at_make; refine wpList_make_full _ rfl _ _ 32 rfl w1.heap.size 3 i0 (.int .i64 0) 1 Try.underlying32 hi hz0 hz1 _ _ _ _ 10 rfl rfl rfl rfl (by rw [hz2]; omega) (by unfold maxLen; omega) (Nat.le_refl _) ?_; intro w2 hown2 hg2)
  have hrow2 := made_row hown2
  have hgl := row_lt hrow2
  have hb2 : Below w1.heap.size w1 w2 := (Below.refl _ _).grown hg2 (Nat.le_refl _) (by simp)
  clear hown2 hg2
  obtain ⟨g, hgd⟩ : ∃ g, g = w1.heap.size := ⟨_, rfl⟩
  have hbw2 := hb1.trans (hb2.mono hb1.size)
  have hwg : w.heap.size ≤ g := by rw [hgd]; exact hb1.size
  rw [← hgd] at hrow2 hgl ⊢
  clear hb2 hgd
  go_loopw [13] (fun i wr => ∃ k : Nat, k ≤ n ∧ i = .int .i64 k ∧ wr.ownsRow g 3 1 (.slice (some ⟨g, 0, none⟩) 10 10) 10 ((countsOf (ls.take k)).map (Value.int .i64)) ∧ Hid (boundC (countsOf (ls.take k)) k) ∧ Below w.heap.size w wr ∧ g < wr.heap.size) (fun i _ => n - (intOf i).toNat)
  case atStart => exact ⟨0, Nat.zero_le _, rfl, by simpa [countsOf] using hrow2, by intro i v hv; rw [List.take_zero] at hv; simp only [countsOf, List.foldl_nil, List.getElem?_replicate] at hv; split at hv <;> simp at hv; omega, hbw2, hgl⟩
  case round =>
    obtain ⟨k, hk, rfl, hrow, HB, hbel, hgr⟩ := hrel
    by_cases hlt : k < n
    · obtain ⟨b, o, l, pa, pc, rfl, hb, hx, hps, g0, g1, g2, g3, g4, g5, g6⟩ := (h.below hbel (Nat.le_refl _)).at hlt
      have HS := Lib.hid (countsOf_step hx)
      have HB2 := Lib.hid (bound_step HB.out l)
      have HOP := Lib.hid (fun hk3 => op_place (good_op HG.out hx hk3))
      obtain ⟨cur, hcur⟩ : ∃ cur, cur = countsOf (ls.take k) := ⟨_, rfl⟩
      rw [← hcur] at hrow HB HS HB2
      have HR := Lib.hid hrow
      clear hx hcur hrow
      obtain ⟨W2, hW2⟩ : ∃ W2, W2 = wr.alloc (lineObj l pa pc) := ⟨_, rfl⟩
      have hal : Below wr.heap.size wr W2 := by rw [hW2]; exact (Below.refl _ _).alloc (Nat.le_refl _) _
      have hbx : BoxL W2 wr.heap.size l pa pc := by rw [hW2]; exact boxL_new _ _ _ _
      have hszW : wr.heap.size < W2.heap.size := by rw [hW2]; simp
      have HW2 := Lib.hid hW2
      clear hW2
      obtain ⟨e0, e1, e2, e3, e4, e5, e6⟩ := hbx
      have hbel2 := hbel.trans (hal.mono hbel.size)
      have HR2 := Lib.hid (ownsRow_below HR.out hal (Nat.le_refl _))
      unfold lineObj at HW2
      by_cases k3 : l.kind = 3
      · obtain ⟨ch, i, hop, hi8, hoi, hib, _⟩ := HOP.out k3
        have HST : Hid (countStep cur l = bump cur i) := by show _ = _; unfold countStep slotOf; rw [if_pos k3, hoi]
        have HIB := Lib.hid hib
        have a3 : (l.kind == 3) = true := by simp [k3]
        rw [hop] at e2 HW2 g2
        clear hib hop hoi k3
        obtain ⟨ec, hc, hf, hrs, hgs⟩ := row_at HR2.out (i := i) (by omega)
        have hbv := boundC_at HB.out ec
        unfold opB at e2 HW2 g2
        obtain ⟨v, hv⟩ : ∃ v, v = cur.getD i 0 := ⟨_, rfl⟩
        rw [← hv] at hc hrs hgs hbv
        have HRS := Lib.hid hrs
        have HGS := Lib.hid hgs
        have hi10 : (i : Int) < 10 := by omega
        have hi10' : i < 10 := by omega
        clear hv hrs hgs ec
        go_wp2_with (first | rw [← HW2.out] | (go_at_call 50; refine (indexOps_any _ _).mono ?_; rintro e w' ⟨rfl, rfl⟩; rw [HIB.out]))
        go_roundw
        case rel => exact ⟨k + 1, by omega, by go_num, by rw [HS.out, HST.out]; exact HRS.out, by rw [HS.out]; exact HB2.out, hbel2.grown HGS.out hbel2.size (by simp; omega), Nat.lt_of_lt_of_le (Nat.lt_trans hgr hszW) HGS.out.size⟩
        case measure => simp [intOf] <;> omega
      have a3 : (l.kind == 3) = false := by simp [k3]
      by_cases k4 : l.kind = 4
      · have HST : Hid (countStep cur l = bump cur 8) := by show _ = _; unfold countStep slotOf; rw [if_neg k3, if_pos k4]
        have a4 : (l.kind == 4) = true := by simp [k4]
        clear k3 k4
        obtain ⟨ec, hc, hf, hrs, hgs⟩ := row_at HR2.out (i := 8) (by omega)
        have hbv := boundC_at HB.out ec
        obtain ⟨v, hv⟩ : ∃ v, v = cur.getD 8 0 := ⟨_, rfl⟩
        rw [← hv] at hc hrs hgs hbv
        have HRS := Lib.hid hrs
        have HGS := Lib.hid hgs
        clear hv hrs hgs ec
        go_wp2_with (rw [← HW2.out])
        go_roundw
        case rel => exact ⟨k + 1, by omega, by go_num, by rw [HS.out, HST.out]; exact HRS.out, by rw [HS.out]; exact HB2.out, hbel2.grown HGS.out hbel2.size (by simp; omega), Nat.lt_of_lt_of_le (Nat.lt_trans hgr hszW) HGS.out.size⟩
        case measure => simp [intOf] <;> omega
      have a4 : (l.kind == 4) = false := by simp [k4]
      by_cases k5 : l.kind = 5
      · have HST : Hid (countStep cur l = bump cur 9) := by show _ = _; unfold countStep slotOf; rw [if_neg k3, if_neg k4, if_pos k5]
        have a5 : (l.kind == 5) = true := by simp [k5]
        clear k3 k4 k5
        obtain ⟨ec, hc, hf, hrs, hgs⟩ := row_at HR2.out (i := 9) (by omega)
        have hbv := boundC_at HB.out ec
        obtain ⟨v, hv⟩ : ∃ v, v = cur.getD 9 0 := ⟨_, rfl⟩
        rw [← hv] at hc hrs hgs hbv
        have HRS := Lib.hid hrs
        have HGS := Lib.hid hgs
        clear hv hrs hgs ec
        go_wp2_with (rw [← HW2.out])
        go_roundw
        case rel => exact ⟨k + 1, by omega, by go_num, by rw [HS.out, HST.out]; exact HRS.out, by rw [HS.out]; exact HB2.out, hbel2.grown HGS.out hbel2.size (by simp; omega), Nat.lt_of_lt_of_le (Nat.lt_trans hgr hszW) HGS.out.size⟩
        case measure => simp [intOf] <;> omega
      · have HST : Hid (countStep cur l = cur) := by show _ = _; unfold countStep slotOf; rw [if_neg k3, if_neg k4, if_neg k5]
        have a5 : (l.kind == 5) = false := by simp [k5]
        clear k3 k4 k5
        go_wp2_with (rw [← HW2.out])
        go_roundw
        case rel => exact ⟨k + 1, by omega, by go_num, by rw [HS.out, HST.out]; exact HR2.out, by rw [HS.out]; exact HB2.out, hbel2, Nat.lt_trans hgr hszW⟩
        case measure => simp [intOf] <;> omega
    · obtain rfl : k = n := by omega
      rw [List.take_of_length_le (by rw [hl.out]; exact Nat.le_refl _)] at hrow
      go_wp2_with fail
      go_ret2
      exact RetIB.eq HF.out ((row_own hrow).up (by omega)) hbel
end Go.Proofs.Ytphilajibbikkaa
