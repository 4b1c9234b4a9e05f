/-
  The language: ValuesIn and RunProgram, reference and program.
-/
import Derived.Test.YtdlddkgmjpmenaaGreatDoorQVa6
import Derived.Test.YtdlddkgmjpmenaaGreatDoorHWd
namespace Go.Proofs.YtdlddkgmjpmenaaGreatDoor
open Go.RowKit
set_option linter.unusedVariables false
set_option linter.unusedSimpArgs false

theorem ownI_capLe {B : Nat} {w : World} {ao : Option Addr} {n cap : Nat} {xs : List Int} (h : OwnI B w ao n cap xs) : n ≤ cap := by
  obtain ⟨_, _, h⟩ := h
  rcases h with ⟨_, rfl, rfl⟩ | ⟨g, rfl, hr⟩
  · exact Nat.le_refl _
  · rcases hr.2 with ⟨hv, h0⟩ | ⟨g2, cap2, cur, hv, _, _, hn', _⟩
    · omega
    · simp only [Value.slice.injEq] at hv
      obtain ⟨_, _, rfl⟩ := hv
      omega
def pickL (ls : List Ln) (vs : List Int) : Nat → List Int
  | 0 => []
  | k + 1 => match ls[k]? with
    | some x => if x.kind = 6 then pickL ls vs k ++ [atN vs k] else pickL ls vs k
    | none => pickL ls vs k
theorem pickL_step {ls : List Ln} {vs : List Int} {k : Nat} {x : Ln} {v : Int} (h : ls[k]? = some x) (hv : vs[k]? = some v) : pickL ls vs (k + 1) = if x.kind = 6 then pickL ls vs k ++ [v] else pickL ls vs k := by
  rw [pickL, h, atN_get hv]
def runPF (ls : List Ln) (a b : List Int) : List Int × Bool := if askedB ls a b = true then (pickL ls (valsL ls a b) ls.length, true) else ([], false)
theorem valsL_length {ls : List Ln} {a b : List Int} (hq : askedB ls a b = true) : (valsL ls a b).length = ls.length := (okV_run hq ls.length (Nat.le_refl _)).len

theorem spec_ValuesIn_any (w : World) (ao aa ba : Option Addr) (n c na ca nb cb : Nat) (ls : List Ln) (a b : List Int) (h : Lns w w.heap.size ao n ls) (hs : okS ls) (hn20 : n ≤ 1048576) (hnc : n ≤ c) (ha : Ints w w.heap.size aa na a) (hb : Ints w w.heap.size ba nb b) (hca : na ≤ ca) (hcb : nb ≤ cb) :
    Calls Tryz.prog 14 #[.slice ao n c, .slice aa na ca, .slice ba nb cb] w (RetIB (valF ls a b) w) := by
  go_enter Tryz.func14, Tryz.ntmps14
  go_wp2_with fail
  refine (laAsked_any _ _ _ _ _ _ _ _ _ _ _ _ _ h hs hn20 hnc ha hb).mono ?_
  rintro e w1 ⟨rfl, hb1⟩
  cases hq : askedB ls a b
  · have HF : Hid (valF ls a b = ([], false)) := by show _ = _; unfold valF; rw [hq]; rfl
    go_wp2_with fail
    go_ret2
    exact RetIB.eq HF.out (OwnI.nil _ _ _) hb1
  · have HF : Hid (valF ls a b = (valsL ls a b, true)) := by show _ = _; unfold valF; rw [hq]; rfl
    have HQ := Lib.hid hq
    clear hq
    go_wp2_with fail
    refine (laValues_any _ _ _ _ _ _ _ _ _ _ _ _ _ ((h.below hb1 (Nat.le_refl _)).up hb1.size) hs hnc ((ha.below hb1 (Nat.le_refl _)).up hb1.size) ((hb.below hb1 (Nat.le_refl _)).up hb1.size) hca hcb HQ.out).mono ?_
    rintro e w2 ⟨a2, n2, c2, rfl, ho, hb2⟩
    go_wp2_with fail
    go_ret2
    exact RetIB.eq HF.out (ho.up hb1.size) (hb1.trans (hb2.mono hb1.size))
theorem impl_ValuesIn_any (w : World) (ao aa ba : Option Addr) (n c na ca nb cb : Nat) (ls : List Ln) (a b : List Int) (h : Lns w w.heap.size ao n ls) (hs : okS ls) (hnc : n ≤ c) (ha : Ints w w.heap.size aa na a) (hb : Ints w w.heap.size ba nb b) :
    Calls Tryz.prog 13 #[.slice ao n c, .slice aa na ca, .slice ba nb cb] w (RetIB (valF ls a b) w) := by
  go_enter Tryz.func13, Tryz.ntmps13
  go_wp2_with fail
  refine (areValues_any _ _ _ _ _ _ _ _ _ _ _ _ _ h hs hnc ha hb).mono ?_
  rintro e w1 ⟨rfl, hb1⟩
  cases hq : askedB ls a b
  · have HF : Hid (valF ls a b = ([], false)) := by show _ = _; unfold valF; rw [hq]; rfl
    go_wp2_with fail
    go_ret2
    exact RetIB.eq HF.out (OwnI.nil _ _ _) hb1
  · have HF : Hid (valF ls a b = (valsL ls a b, true)) := by show _ = _; unfold valF; rw [hq]; rfl
    have HQ := Lib.hid hq
    clear hq
    go_wp2_with fail
    refine (valuesIn_any _ _ _ _ _ _ _ _ _ _ _ _ _ ((h.below hb1 (Nat.le_refl _)).up hb1.size) hs hnc ((ha.below hb1 (Nat.le_refl _)).up hb1.size) ((hb.below hb1 (Nat.le_refl _)).up hb1.size) HQ.out).mono ?_
    rintro e w2 ⟨a2, n2, c2, rfl, ho, hb2⟩
    go_wp2_with fail
    go_ret2
    exact RetIB.eq HF.out (ho.up hb1.size) (hb1.trans (hb2.mono hb1.size))
set_option maxHeartbeats 4000000 in
theorem laRun_any (w : World) (ao aa ba : Option Addr) (n c na ca nb cb : Nat) (ls : List Ln) (a b : List Int) (h : Lns w w.heap.size ao n ls) (hs : okS ls) (hnc : n ≤ c) (ha : Ints w w.heap.size aa na a) (hb : Ints w w.heap.size ba nb b) (hca : na ≤ ca) (hcb : nb ≤ cb) (hq : askedB ls a b = true) :
    Calls Tryz.prog 36 #[.slice ao n c, .slice aa na ca, .slice ba nb cb] w (RetI (pickL ls (valsL ls a b) ls.length) w) := by
  have hn := h.le
  have hl := Lib.hid h.1
  have HQ := Lib.hid hq
  have HVL := Lib.hid (valsL_length hq)
  have h30 := good_len3 (asked_good hq).1
  rw [hl.out] at h30
  clear hq
  go_enter Tryz.func36, Tryz.ntmps36
  go_wp2_with fail
  refine (laValues_any _ _ _ _ _ _ _ _ _ _ _ _ _ h hs hnc ha hb hca hcb HQ.out).mono ?_
  rintro e w1 ⟨a1, n1, c1, rfl, ho1, hb1⟩
  obtain rfl : n1 = n := by have := ho1.1; rw [HVL.out, hl.out] at this; exact this.symm
  have HI1 := Lib.hid ho1.ints
  have h1 := h.below hb1 (Nat.le_refl _)
  clear ho1
  go_wp2_with fail
  go_loopw [7, 15] (fun out i wr => ∃ (k m : Nat) (co : Option Addr) (cap : Nat), k ≤ n1 ∧ m ≤ k ∧ i = .int .i64 k ∧ out = .slice co m cap ∧ OwnI w1.heap.size wr co m cap (pickL ls (valsL ls a b) k) ∧ Below w1.heap.size w1 wr) (fun _ i _ => n1 - (intOf i).toNat)
  case atStart => exact ⟨0, 0, _, _, Nat.zero_le _, Nat.le_refl _, rfl, rfl, OwnI.nil _ _ _, Below.refl _ _⟩
  case round =>
    obtain ⟨k, m, co, cap, hk, hmk, rfl, rfl, hout, hbel⟩ := hrel
    have hz1 := hbel.size
    by_cases hlt : k < n1
    · obtain ⟨b0, oo, l, pa, pc, rfl, hbb, hx, hps, g0, g1, g2, g3, g4, g5, g6⟩ := (h1.below hbel hb1.size).at hlt
      obtain ⟨b3, o3, z, rfl, hbb3, hz, q3⟩ := (HI1.out.below hbel (Nat.le_refl _)).at hlt
      have HST := Lib.hid (pickL_step hx hz)
      clear hx hz
      by_cases h6 : l.kind = 6
      · rw [h6] at g0
        go_wp2_with (at_builtin; refine wpList_append_i rfl _ _ rfl w1.heap.size _ _ _ _ _ rfl (by first | rfl | (simp; rfl)) hout (by omega) (by omega) ?_; intro ao' cap' w9 hown9 hg9)
        have hbe9 := hbel.grown hg9 (by omega) (fun q hq => by have := hout.rowLt q hq; omega)
        go_roundw
        case rel => exact ⟨k + 1, m + 1, ao', cap', by omega, by omega, by go_num, rfl, by rw [HST.out, if_pos h6]; exact hown9, hbe9⟩
        case measure => simp [intOf] <;> omega
      · have h6' : (l.kind == 6) = false := by simp [h6]
        go_wp2_with fail
        go_roundw
        case rel => exact ⟨k + 1, m, co, cap, by omega, by omega, by go_num, rfl, by rw [HST.out, if_neg h6]; exact hout, hbel⟩
        case measure => simp [intOf] <;> omega
    · obtain rfl : k = n1 := by omega
      have hbelw := hb1.trans (hbel.mono hb1.size)
      go_wp2_with fail
      go_ret
      exact ⟨_, _, _, rfl, by rw [hl.out]; exact hout.up hb1.size, hbelw⟩
theorem spec_RunProgram_any (w : World) (ao aa ba : Option Addr) (n c na ca nb cb : Nat) (ls : List Ln) (a b : List Int) (h : Lns w w.heap.size ao n ls) (hs : okS ls) (hn20 : n ≤ 1048576) (hnc : n ≤ c) (ha : Ints w w.heap.size aa na a) (hb : Ints w w.heap.size ba nb b) (hca : na ≤ ca) (hcb : nb ≤ cb) :
    Calls Tryz.prog 12 #[.slice ao n c, .slice aa na ca, .slice ba nb cb] w (RetIB (runPF ls a b) w) := by
  go_enter Tryz.func12, Tryz.ntmps12
  go_wp2_with fail
  refine (laAsked_any _ _ _ _ _ _ _ _ _ _ _ _ _ h hs hn20 hnc ha hb).mono ?_
  rintro e w1 ⟨rfl, hb1⟩
  cases hq : askedB ls a b
  · have HF : Hid (runPF ls a b = ([], false)) := by show _ = _; unfold runPF; rw [hq]; rfl
    go_wp2_with fail
    go_ret2
    exact RetIB.eq HF.out (OwnI.nil _ _ _) hb1
  · have HF : Hid (runPF ls a b = (pickL ls (valsL ls a b) ls.length, true)) := by show _ = _; unfold runPF; rw [hq]; rfl
    have HQ := Lib.hid hq
    clear hq
    go_wp2_with fail
    refine (laRun_any _ _ _ _ _ _ _ _ _ _ _ _ _ ((h.below hb1 (Nat.le_refl _)).up hb1.size) hs hnc ((ha.below hb1 (Nat.le_refl _)).up hb1.size) ((hb.below hb1 (Nat.le_refl _)).up hb1.size) hca hcb HQ.out).mono ?_
    rintro e w2 ⟨a2, n2, c2, rfl, ho, hb2⟩
    go_wp2_with fail
    go_ret2
    exact RetIB.eq HF.out (ho.up hb1.size) (hb1.trans (hb2.mono hb1.size))
set_option maxHeartbeats 4000000 in
theorem impl_RunProgram_any (w : World) (ao aa ba : Option Addr) (n c na ca nb cb : Nat) (ls : List Ln) (a b : List Int) (h : Lns w w.heap.size ao n ls) (hs : okS ls) (hnc : n ≤ c) (ha : Ints w w.heap.size aa na a) (hb : Ints w w.heap.size ba nb b) :
    Calls Tryz.prog 11 #[.slice ao n c, .slice aa na ca, .slice ba nb cb] w (RetIB (runPF ls a b) w) := by
  have hn := h.le
  have hl := Lib.hid h.1
  go_enter Tryz.func11, Tryz.ntmps11
  go_wp2_with fail
  refine (impl_ValuesIn_any _ _ _ _ _ _ _ _ _ _ _ _ _ h hs hnc ha hb).mono ?_
  rintro e w1 ⟨a1, n1, c1, rfl, ho1, hb1⟩
  cases hq : askedB ls a b
  · have HF : Hid (runPF ls a b = ([], false)) := by show _ = _; unfold runPF; rw [hq]; rfl
    have HV : Hid (valF ls a b = ([], false)) := by show _ = _; unfold valF; rw [hq]; rfl
    rw [HV.out] at ho1 ⊢
    clear hq
    go_wp2_with fail
    go_ret2
    exact RetIB.eq HF.out (OwnI.nil _ _ _) hb1
  · have HF : Hid (runPF ls a b = (pickL ls (valsL ls a b) ls.length, true)) := by show _ = _; unfold runPF; rw [hq]; rfl
    have HV : Hid (valF ls a b = (valsL ls a b, true)) := by show _ = _; unfold valF; rw [hq]; rfl
    rw [HV.out] at ho1 ⊢
    have HVL := Lib.hid (valsL_length hq)
    have h30 := good_len3 (asked_good hq).1
    rw [hl.out] at h30
    clear hq
    simp only [] at ho1
    obtain rfl : n1 = n := by have := ho1.1; rw [HVL.out, hl.out] at this; exact this.symm
    have HI1 := Lib.hid ho1.ints
    have h1 := h.below hb1 (Nat.le_refl _)
    clear ho1
    obtain ⟨W2, hW2⟩ : ∃ W2, W2 = w1.alloc (.cells #[] 3) := ⟨_, rfl⟩
    have hb2 : Below w1.heap.size w1 W2 := by rw [hW2]; exact (Below.refl _ _).alloc (Nat.le_refl _) _
    have HOW : Hid (OwnI w1.heap.size W2 (some ⟨w1.heap.size, 0, none⟩) 0 0 []) := by
      show OwnI _ _ _ _ _ _
      rw [hW2]
      exact ⟨rfl, by omega, .inr ⟨_, rfl, empty_row (heap_alloc_new _ _) (Nat.le_refl _)⟩⟩
    have HW2 := Lib.hid hW2
    clear hW2
    go_wp2_with (rw [← HW2.out])
    go_loopw [10, 25] (fun out i wr => ∃ (k m : Nat) (co : Option Addr) (cap : Nat), k ≤ n1 ∧ m ≤ k ∧ i = .int .i64 k ∧ out = .slice co m cap ∧ OwnI w1.heap.size wr co m cap (pickL ls (valsL ls a b) k) ∧ Below w1.heap.size w1 wr) (fun _ i _ => n1 - (intOf i).toNat)
    case atStart => exact ⟨0, 0, _, _, Nat.zero_le _, Nat.le_refl _, rfl, rfl, HOW.out, hb2⟩
    case round =>
      obtain ⟨k, m, co, cap, hk, hmk, rfl, rfl, hout, hbel⟩ := hrel
      obtain ⟨wr, hwr⟩ := wname hbel
      subst hwr
      have hz1 := hbel.size
      by_cases hlt : k < n1
      · obtain ⟨b0, oo, l, pa, pc, rfl, hbb, hx, hps, g0, g1, g2, g3, g4, g5, g6⟩ := (h1.below hbel hb1.size).at hlt
        obtain ⟨W3, hW3⟩ : ∃ W3, W3 = wr.alloc (lineObj l pa pc) := ⟨_, rfl⟩
        have hal3 : Below wr.heap.size wr W3 := by rw [hW3]; exact (Below.refl _ _).alloc (Nat.le_refl _) _
        have hbx3 : BoxL W3 wr.heap.size l pa pc := by rw [hW3]; exact boxL_new _ _ _ _
        have HW3 := Lib.hid hW3
        clear hW3
        have hz3 := hal3.size
        have hbel3 := hbel.trans (hal3.mono hz1)
        have hout3 := hout.below hal3 (Nat.le_refl _)
        obtain ⟨b3, o3, z, rfl, hbb3, hz, q3⟩ := (HI1.out.below hbel3 (Nat.le_refl _)).at hlt
        have HST := Lib.hid (pickL_step hx hz)
        clear hx hz hal3
        obtain ⟨e0, e1, e2, e3, e4, e5, e6⟩ := hbx3
        unfold lineObj at HW3
        by_cases h6 : l.kind = 6
        · have h6t : (l.kind == 6) = true := by simp [h6]
          rw [if_pos h6] at HST
          clear h6
          go_wp2_with (first | rw [← HW3.out] | (at_builtin; refine wpList_append_i rfl _ _ rfl w1.heap.size _ _ _ _ _ rfl (by first | rfl | (simp; rfl)) hout3 (by omega) (by omega) ?_; intro ao' cap' w9 hown9 hg9))
          have hbe9 := hbel3.grown hg9 (by omega) (fun q hq => by have := hout3.rowLt q hq; omega)
          go_roundw
          case rel => exact ⟨k + 1, m + 1, ao', cap', by omega, by omega, by go_num, rfl, by rw [HST.out]; exact hown9, hbe9⟩
          case measure => simp [intOf] <;> omega
        · have h6' : (l.kind == 6) = false := by simp [h6]
          go_wp2_with (rw [← HW3.out])
          go_roundw
          case rel => exact ⟨k + 1, m, co, cap, by omega, by omega, by go_num, rfl, by rw [HST.out, if_neg h6]; exact hout3, hbel3⟩
          case measure => simp [intOf] <;> omega
      · obtain rfl : k = n1 := by omega
        have hbelw := hb1.trans (hbel.mono hb1.size)
        go_wp2_with fail
        go_ret2
        exact RetIB.eq HF.out (by rw [hl.out]; exact hout.up hb1.size) hbelw
end Go.Proofs.YtdlddkgmjpmenaaGreatDoor
/-
  FnLanguage, the plain law: results fit their widths, widths belong to names.
-/
namespace Go.Proofs.YtdlddkgmjpmenaaGreatDoor
open Go.RowKit
set_option linter.unusedVariables false
set_option linter.unusedSimpArgs false

/-- The first line of a name in a program is the line itself. -/
theorem good_name {ls : List Ln} (hg : laGoodF ls = true) {k : Nat} {x : Ln} (h : ls[k]? = some x) (h6 : x.kind ≠ 6) : findF ls x.name = k := by
  have hok := ((widths_good ls).2 hg).2
  have h1 := laWidths_get h
  have h2 := hok.2.1 k _ h1
  unfold laWidth at h2
  split at h2
  · omega
  · next w hw =>
    split at h2
    · omega
    · next g1 =>
      have g2 : ¬ 0 ≤ findF (ls.take k) x.name := by
        intro e
        apply g1
        simp [h6, e]
      unfold findF at g2 ⊢
      have hf : (ls.take k).findIdx? (findB x.name) = none := by
        cases hc : (ls.take k).findIdx? (findB x.name) with
        | none => rfl
        | some i => rw [hc] at g2; exact absurd (Int.natCast_nonneg i) g2
      have hf2 : ls.findIdx? (findB x.name) = some k := by
        rw [List.findIdx?_eq_some_iff_getElem]
        obtain ⟨hk, e⟩ := List.getElem?_eq_some_iff.1 h
        refine ⟨hk, by rw [e]; simp [findB, h6], fun j hj => ?_⟩
        rw [List.findIdx?_eq_none_iff] at hf
        have := hf ls[j] (by rw [List.mem_take_iff_getElem]; exact ⟨j, by omega, rfl⟩)
        simpa using this
      rw [hf2]
theorem won_name {ls : List Ln} (hg : laGoodF ls = true) {k : Nat} {x : Ln} (h : ls[k]? = some x) (h6 : x.kind ≠ 6) {wd : Int} (hw : (laWidths ls)[k]? = some wd) : wonF ls x.name = (wd, true) := by
  unfold wonF
  rw [good_name hg h h6, if_pos ⟨hg, by omega⟩, atN_get hw]
theorem good_width {ls : List Ln} (hg : laGoodF ls = true) {k : Nat} {wd : Int} (hw : (laWidths ls)[k]? = some wd) : 1 ≤ wd ∧ wd ≤ 10 := ((widths_good ls).2 hg).2.2.1 k wd hw
theorem vals_fit {ls : List Ln} {a b : List Int} (hq : askedB ls a b = true) {i : Nat} {v wd : Int} (hv : (valsL ls a b)[i]? = some v) (hw : (laWidths ls)[i]? = some wd) : fits v wd ∧ 1 ≤ wd ∧ wd ≤ 10 :=
  ⟨(okV_run hq ls.length (Nat.le_refl _)).fit i v wd hv hw, good_width (asked_good hq).1 hw⟩
theorem snoc_at {α : Type} {xs : List α} {a b : α} {i : Nat} (e : (xs ++ [a])[i]? = some b) : (i < xs.length ∧ xs[i]? = some b) ∨ (i = xs.length ∧ a = b) := by
  by_cases hi : i < xs.length
  · rw [List.getElem?_append_left hi] at e
    exact .inl ⟨hi, e⟩
  · rw [List.getElem?_append_right (by omega)] at e
    have : i - xs.length = 0 := by
      have := (List.getElem?_eq_some_iff.1 e).1
      simp at this
      omega
    rw [this] at e
    simp at e
    exact .inr ⟨by omega, e⟩
theorem outs_fit {ls : List Ln} {a b : List Int} (hq : askedB ls a b = true) : ∀ k, k ≤ ls.length →
    (pickL ls (valsL ls a b) k).length = (pickW (fun l => l.kind == 6) (ls.take k) ((laWidths ls).take k)).length ∧
    ∀ (i : Nat) (v wd : Int), (pickL ls (valsL ls a b) k)[i]? = some v → (pickW (fun l => l.kind == 6) (ls.take k) ((laWidths ls).take k))[i]? = some wd → fits v wd ∧ 1 ≤ wd ∧ wd ≤ 10
  | 0, _ => ⟨by simp [pickL, pickW], fun i v wd h => by simp [pickL] at h⟩
  | k + 1, hk => by
    obtain ⟨ih1, ih2⟩ := outs_fit hq k (by omega)
    have hl : ls[k]? = some ls[k] := List.getElem?_eq_getElem (by omega)
    obtain ⟨v, hv⟩ : ∃ v, (valsL ls a b)[k]? = some v := ⟨_, List.getElem?_eq_getElem (by rw [valsL_length hq]; omega)⟩
    obtain ⟨wd, hw⟩ : ∃ wd, (laWidths ls)[k]? = some wd := ⟨_, List.getElem?_eq_getElem (by rw [laWidths_length]; omega)⟩
    rw [pickL_step hl hv, pickW_step hl hw (by omega) (by rw [laWidths_length]; omega)]
    by_cases h6 : ls[k].kind = 6
    · rw [if_pos h6, if_pos (by simpa using h6)]
      refine ⟨by rw [List.length_append, List.length_append, ih1]; rfl, fun i u z hu hz => ?_⟩
      rcases snoc_at hu with ⟨h1, hu⟩ | ⟨h1, rfl⟩
      · rcases snoc_at hz with ⟨_, hz⟩ | ⟨h2, _⟩
        · exact ih2 i u z hu hz
        · omega
      · rcases snoc_at hz with ⟨h2, _⟩ | ⟨_, rfl⟩
        · omega
        · exact vals_fit hq hv hw
    · rw [if_neg h6, if_neg (by simpa using h6), List.append_nil]
      exact ⟨ih1, ih2⟩
theorem run_fit {ls : List Ln} {a b : List Int} (hq : askedB ls a b = true) :
    (pickL ls (valsL ls a b) ls.length).length = (outsW ls (laWidths ls)).length ∧ ∀ (i : Nat) (v wd : Int), (pickL ls (valsL ls a b) ls.length)[i]? = some v → (outsW ls (laWidths ls))[i]? = some wd → fits v wd ∧ 1 ≤ wd ∧ wd ≤ 10 := by
  have h := outs_fit hq ls.length (Nat.le_refl _)
  rw [List.take_length, List.take_of_length_le (by rw [laWidths_length]; exact Nat.le_refl _)] at h
  exact h
theorem asked_run {ls : List Ln} {a b : List Int} : (runPF ls a b).2 = askedB ls a b := by
  unfold runPF; cases askedB ls a b <;> rfl
theorem asked_val {ls : List Ln} {a b : List Int} : (valF ls a b).2 = askedB ls a b := by
  unfold valF; cases askedB ls a b <;> rfl
end Go.Proofs.YtdlddkgmjpmenaaGreatDoor
