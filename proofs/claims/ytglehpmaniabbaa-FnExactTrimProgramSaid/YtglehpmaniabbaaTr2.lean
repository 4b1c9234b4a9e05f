/-
  The language: TrimProgram, reference and program (printed by XTr2.py).
-/
import Derived.Test.YtglehpmaniabbaaTr1
namespace Go.Proofs.Ytglehpmaniabbaa
open Go.RowKit
set_option linter.unusedVariables false
set_option linter.unusedSimpArgs false

theorem good_len4 {ls : List Ln} (hg : laGoodF ls = true) : ls.length ≤ 30 := by
  unfold laGoodF at hg
  rw [Bool.and_eq_true] at hg
  simpa using hg.1
set_option maxRecDepth 100000 in
set_option maxHeartbeats 8000000 in
theorem spec_TrimProgram_any (w : World) (ao : Option Addr) (n c : Nat) (ls : List Ln) (h : Lns w w.heap.size ao n ls) (hs : okS ls) (hn20 : n ≤ 1048576) (hnc : n ≤ c) :
    Calls Try.prog 8 #[.slice ao n c] w (RetTB (trimF ls) w) := by
  have hn := h.le
  have hl := Lib.hid h.1
  have HSZ := Lib.hid hs
  go_enter Try.func8, Try.ntmps8
  go_wp2_with fail
  refine (laGood_any _ _ _ _ _ h hs hnc).mono ?_
  rintro e w1 ⟨rfl, hb1⟩
  cases hg : laGoodF ls
  · have HF : Hid (trimF ls = ([], false)) := by show _ = _; unfold trimF; rw [hg]; simp
    go_wp2_with fail
    go_ret2
    exact RetTB.eq HF.out (TT.nil _ _ _) hb1
  have HF : Hid (trimF ls = (trimL ls n, true)) := by show _ = _; unfold trimF; rw [if_pos hg, hl.out]
  have h30 := good_len4 hg
  rw [hl.out] at h30
  have HBL := Lib.hid (ndL_length ls n)
  have HG := Lib.hid hg
  clear hg hs
  go_wp2_with fail
  have hbwa := hb1
  refine (laNeeded_any _ _ _ _ _ ((h.below hbwa (Nat.le_refl _)).up hbwa.size) HG.out).mono ?_
  rintro e w4 ⟨g, rfl, hob, hb4⟩
  obtain ⟨bs, hbs⟩ : ∃ bs, bs = ndL ls n := ⟨_, rfl⟩
  rw [← hbs] at hob HBL
  have HBS := Lib.hid hbs
  clear hbs
  have hbw4 := hbwa.trans (hb4.mono hbwa.size)
  have hz1 := hb1.size
  have hza := hbwa.size
  have hz4 := hb4.size
  have h4 := h.below hbw4 (Nat.le_refl _)
  have HOB := Lib.hid hob
  clear hob
  go_wp2_with fail
  go_loopw [4, 14] (fun out i wr => ∃ (k : Nat) (co : Option Addr) (m cap : Nat) (hs : List (Option Addr × Nat)), k ≤ n ∧ m ≤ k ∧ i = .int .i64 k ∧ out = .slice co m cap ∧ TT w4.heap.size wr co m cap hs (trimL ls k) ∧ Below w4.heap.size w4 wr) (fun _ i _ => n - (intOf i).toNat)
  case atStart => exact ⟨0, _, 0, 0, [], Nat.zero_le _, Nat.le_refl _, rfl, rfl, TT.nil _ _ _, Below.refl _ _⟩
  case round =>
    obtain ⟨k, co, m, cap, hs, hk, hmk, rfl, rfl, htt, hbel⟩ := hrel
    obtain ⟨wr, hwr⟩ := wname' hbel
    subst hwr
    have hbelw := hbw4.trans (hbel.mono (by omega))
    have hzr := hbel.size
    by_cases hlt : k < n
    · obtain ⟨b, o, l, pa, pc, rfl, hb, hx, hps, g0, g1, g2, g3, g4, g5, g6⟩ := (h4.below hbel (by omega)).at hlt
      obtain ⟨v, hv⟩ := getL_at (i := k) (HBL.out.trans hl.out) hlt
      have hmv : (mixL ls bs 0)[k]? = some (v || isOut l) := by
        rw [mixL_get (by rw [hl.out]; exact hlt), hx, List.getD_eq_getElem?_getD, hv]; simp
      have hgl : g < w4.heap.size := by obtain ⟨g', e1, _, e3⟩ := HOB.out.blk (by omega); simp at e1; omega
      have hcb := (hbel.cell (p := ⟨g, k, none⟩) hgl).trans (HOB.out.cell hmv)
      have hpl := (okS_at HSZ.out hx).2.2
      have HST := Lib.hid (trimL_step hx)
      have HKB : Hid (keepB ls k l = (v || isOut l || l.kind == 1)) := by show _ = _; unfold keepB; rw [hl.out, ← HBS.out, List.getD_eq_getElem?_getD, hv]; rfl
      have HTT := Lib.hid htt
      clear hx hv hmv htt
      cases hm : (v || isOut l)
      · rw [hm] at hcb HKB
        cases k1 : (l.kind == 1)
        · have k1' : ¬ l.kind = 1 := by intro e; rw [e] at k1; simp at k1
          have HK1 : Hid (keepB ls k l = false) := by show _ = _; rw [HKB.out, k1]; rfl
          have HS2 : Hid (trimL ls (k + 1) = trimL ls k) := by show _ = _; rw [HST.out, HK1.out]; simp
          go_wp2_with fail
          go_roundw
          case rel => exact ⟨k + 1, co, m, cap, hs, by omega, by omega, by go_num, rfl, by rw [HS2.out]; exact HTT.out, hbel⟩
          case measure => simp [intOf] <;> omega
        · have HK1 : Hid (keepB ls k l = true) := by show _ = _; rw [HKB.out, k1]; rfl
          have HS2 : Hid (trimL ls (k + 1) = trimL ls k ++ [l]) := by show _ = _; rw [HST.out, HK1.out]; simp
          obtain ⟨W3, hW3⟩ : ∃ W3, W3 = wr.alloc (lineObj l pa pc) := ⟨_, rfl⟩
          have hal3 : Below wr.heap.size wr W3 := by rw [hW3]; exact (Below.refl _ _).alloc (Nat.le_refl _) _
          have hz3 : W3.heap.size = wr.heap.size + 1 := by rw [hW3]; simp
          have hn3 : W3.heap[wr.heap.size]? = some (lineObj l pa pc) := by rw [hW3]; exact heap_alloc_new _ _
          have HW3 := Lib.hid hW3
          clear hW3
          unfold lineObj at hn3 HW3
          have hps3 := hps.below hal3 (by omega)
          have HAL3 := Lib.hid hal3
          have e0 := (blk_at hn3 0).1
          have e1 := (blk_at hn3 1).1
          have e2 := (blk_at hn3 2).1
          have e3 := (blk_at hn3 3).1
          have e4 := (blk_at hn3 4).1
          have e5 := (blk_at hn3 5).1
          have e6 := (blk_at hn3 6).1
          simp at e0 e1 e2 e3 e4 e5 e6
          go_wp2_with (rw [← HW3.out])
          refine (l1OwnS_any _ _ _ _ _ _ hps3 (by omega) (by omega)).mono ?_
          rintro e w5 ⟨po, m5, pc5, rfl, hx5, hb5⟩
          obtain rfl : m5 = l.parts.length := hx5.1.symm
          have hn5 := (hb5.block _ (by omega)).trans hn3
          clear e0 e1 e2 e3 e4 e5 e6 hn3
          have x3 := (blk_at hn5 3).1
          have y3 := (blk_at hn5 3).2
          simp at x3
          obtain ⟨W6, hW6⟩ : ∃ W6, W6 = w5.setCell ⟨wr.heap.size, 3, none⟩ (.slice po l.parts.length pc5) := ⟨_, rfl⟩
          have hn6 := blk_set hn5 3 (.slice po l.parts.length pc5)
          simp at hn6
          rw [← hW6] at hn6
          have hb36 : Below wr.heap.size wr W6 := by rw [hW6]; exact below_set (HAL3.out.trans (hb5.mono (by omega))) _ _ (Nat.le_refl _)
          have hx6 : OwnSt W3.heap.size W6 po l.parts.length pc5 l.parts := by rw [hW6]; exact hx5.other (grown_setC _ ⟨_, _, none⟩ _) (fun p q hp hq => by have := (hx5.rowLt p hp).1; simp at hq; omega)
          have hz6 := hb36.size
          have HW6 := Lib.hid hW6
          clear hW6
          have c0 := (blk_at hn6 0).1
          have c1 := (blk_at hn6 1).1
          have c2 := (blk_at hn6 2).1
          have c3 := (blk_at hn6 3).1
          have c4 := (blk_at hn6 4).1
          have c5 := (blk_at hn6 5).1
          have c6 := (blk_at hn6 6).1
          simp at c0 c1 c2 c3 c4 c5 c6
          clear hn5 hn6
          have htt6 := HTT.out.below hb36 (Nat.le_refl _)
          have hrw : ∀ (i : Nat) (y : Option Addr × Nat) (p : Nat), hs[i]? = some y → rowOf y.1 y.2 = some p → p < W3.heap.size := fun i y p q1 q2 => by have := HTT.out.rows i y p q1 q2; omega
          go_wp2_with (first | rw [← HW6.out] | (at_builtin; refine wpList_append_l rfl _ _ rfl w4.heap.size W3.heap.size _ _ _ hs _ l _ _ rfl (by first | rfl | (simp; rfl)) htt6 hx6 hrw (by omega) (by omega) (by omega) ?_; intro ao' cap' w9 htt9 hg9))
          have hbe9 := (hbel.trans (hb36.mono hzr)).grown hg9 (by omega) (fun q hq => (htt6.row.rowLt q hq).1)
          go_roundw
          case rel => exact ⟨k + 1, ao', m + 1, cap', _, by omega, by omega, by go_num, rfl, by rw [HS2.out]; exact htt9, hbe9⟩
          case measure => simp [intOf] <;> omega
      · rw [hm] at hcb HKB
        have HK1 : Hid (keepB ls k l = true) := by show _ = _; rw [HKB.out]; rfl
        have HS2 : Hid (trimL ls (k + 1) = trimL ls k ++ [l]) := by show _ = _; rw [HST.out, HK1.out]; simp
        obtain ⟨W3, hW3⟩ : ∃ W3, W3 = wr.alloc (lineObj l pa pc) := ⟨_, rfl⟩
        have hal3 : Below wr.heap.size wr W3 := by rw [hW3]; exact (Below.refl _ _).alloc (Nat.le_refl _) _
        have hz3 : W3.heap.size = wr.heap.size + 1 := by rw [hW3]; simp
        have hn3 : W3.heap[wr.heap.size]? = some (lineObj l pa pc) := by rw [hW3]; exact heap_alloc_new _ _
        have HW3 := Lib.hid hW3
        clear hW3
        unfold lineObj at hn3 HW3
        have hps3 := hps.below hal3 (by omega)
        have HAL3 := Lib.hid hal3
        have e0 := (blk_at hn3 0).1
        have e1 := (blk_at hn3 1).1
        have e2 := (blk_at hn3 2).1
        have e3 := (blk_at hn3 3).1
        have e4 := (blk_at hn3 4).1
        have e5 := (blk_at hn3 5).1
        have e6 := (blk_at hn3 6).1
        simp at e0 e1 e2 e3 e4 e5 e6
        go_wp2_with (rw [← HW3.out])
        refine (l1OwnS_any _ _ _ _ _ _ hps3 (by omega) (by omega)).mono ?_
        rintro e w5 ⟨po, m5, pc5, rfl, hx5, hb5⟩
        obtain rfl : m5 = l.parts.length := hx5.1.symm
        have hn5 := (hb5.block _ (by omega)).trans hn3
        clear e0 e1 e2 e3 e4 e5 e6 hn3
        have x3 := (blk_at hn5 3).1
        have y3 := (blk_at hn5 3).2
        simp at x3
        obtain ⟨W6, hW6⟩ : ∃ W6, W6 = w5.setCell ⟨wr.heap.size, 3, none⟩ (.slice po l.parts.length pc5) := ⟨_, rfl⟩
        have hn6 := blk_set hn5 3 (.slice po l.parts.length pc5)
        simp at hn6
        rw [← hW6] at hn6
        have hb36 : Below wr.heap.size wr W6 := by rw [hW6]; exact below_set (HAL3.out.trans (hb5.mono (by omega))) _ _ (Nat.le_refl _)
        have hx6 : OwnSt W3.heap.size W6 po l.parts.length pc5 l.parts := by rw [hW6]; exact hx5.other (grown_setC _ ⟨_, _, none⟩ _) (fun p q hp hq => by have := (hx5.rowLt p hp).1; simp at hq; omega)
        have hz6 := hb36.size
        have HW6 := Lib.hid hW6
        clear hW6
        have c0 := (blk_at hn6 0).1
        have c1 := (blk_at hn6 1).1
        have c2 := (blk_at hn6 2).1
        have c3 := (blk_at hn6 3).1
        have c4 := (blk_at hn6 4).1
        have c5 := (blk_at hn6 5).1
        have c6 := (blk_at hn6 6).1
        simp at c0 c1 c2 c3 c4 c5 c6
        clear hn5 hn6
        have htt6 := HTT.out.below hb36 (Nat.le_refl _)
        have hrw : ∀ (i : Nat) (y : Option Addr × Nat) (p : Nat), hs[i]? = some y → rowOf y.1 y.2 = some p → p < W3.heap.size := fun i y p q1 q2 => by have := HTT.out.rows i y p q1 q2; omega
        go_wp2_with (first | rw [← HW6.out] | (at_builtin; refine wpList_append_l rfl _ _ rfl w4.heap.size W3.heap.size _ _ _ hs _ l _ _ rfl (by first | rfl | (simp; rfl)) htt6 hx6 hrw (by omega) (by omega) (by omega) ?_; intro ao' cap' w9 htt9 hg9))
        have hbe9 := (hbel.trans (hb36.mono hzr)).grown hg9 (by omega) (fun q hq => (htt6.row.rowLt q hq).1)
        go_roundw
        case rel => exact ⟨k + 1, ao', m + 1, cap', _, by omega, by omega, by go_num, rfl, by rw [HS2.out]; exact htt9, hbe9⟩
        case measure => simp [intOf] <;> omega
    · obtain rfl : k = n := by omega
      have HTT := Lib.hid htt
      clear htt
      go_wp2_with fail
      go_ret2
      exact RetTB.eq HF.out (HTT.out.up (by omega)) hbelw
set_option maxRecDepth 100000 in
set_option maxHeartbeats 8000000 in
theorem impl_TrimProgram_any (w : World) (ao : Option Addr) (n c : Nat) (ls : List Ln) (h : Lns w w.heap.size ao n ls) (hs : okS ls) (hnc : n ≤ c) :
    Calls Try.prog 10 #[.slice ao n c] w (RetTB (trimF ls) w) := by
  have hn := h.le
  have hl := Lib.hid h.1
  have HSZ := Lib.hid hs
  go_enter Try.func10, Try.ntmps10
  go_wp2_with fail
  refine (impl_IsProgram_any _ _ _ _ _ h hs hnc).mono ?_
  rintro e w1 ⟨rfl, hb1⟩
  cases hg : laGoodF ls
  · have HF : Hid (trimF ls = ([], false)) := by show _ = _; unfold trimF; rw [hg]; simp
    go_wp2_with fail
    go_ret2
    exact RetTB.eq HF.out (TT.nil _ _ _) hb1
  have HF : Hid (trimF ls = (trimL ls n, true)) := by show _ = _; unfold trimF; rw [if_pos hg, hl.out]
  have h30 := good_len4 hg
  rw [hl.out] at h30
  have HBL := Lib.hid (ndL_length ls n)
  have HG := Lib.hid hg
  clear hg hs
  obtain ⟨Wa, hWa⟩ : ∃ Wa, Wa = w1.alloc (.cells #[] 57) := ⟨_, rfl⟩
  have hba : Below w1.heap.size w1 Wa := by rw [hWa]; exact (Below.refl _ _).alloc (Nat.le_refl _) _
  have hna : Wa.heap[w1.heap.size]? = some (.cells #[] 57 (0, 0)) := by rw [hWa]; exact heap_alloc_new _ _
  have HT0 : Hid (TT w1.heap.size Wa (some ⟨w1.heap.size, 0, none⟩) 0 0 [] []) := TT.nil _ _ _
  have HWa := Lib.hid hWa
  clear hWa hna
  go_wp2_with (rw [← HWa.out])
  have hbwa := hb1.trans (hba.mono hb1.size)
  refine (needed_any _ _ _ _ _ ((h.below hbwa (Nat.le_refl _)).up hbwa.size) HG.out).mono ?_
  rintro e w4 ⟨g, rfl, hob, hb4⟩
  obtain ⟨bs, hbs⟩ : ∃ bs, bs = ndL ls n := ⟨_, rfl⟩
  rw [← hbs] at hob HBL
  have HBS := Lib.hid hbs
  clear hbs
  have hbw4 := hbwa.trans (hb4.mono hbwa.size)
  have hz1 := hb1.size
  have hza := hbwa.size
  have hz4 := hb4.size
  have hz1a := hba.size
  have h4 := h.below hbw4 (Nat.le_refl _)
  have HOB := Lib.hid hob
  clear hob
  go_wp2_with fail
  go_loopw [4, 15] (fun out i wr => ∃ (k : Nat) (co : Option Addr) (m cap : Nat) (hs : List (Option Addr × Nat)), k ≤ n ∧ m ≤ k ∧ i = .int .i64 k ∧ out = .slice co m cap ∧ TT w4.heap.size wr co m cap hs (trimL ls k) ∧ Below w4.heap.size w4 wr) (fun _ i _ => n - (intOf i).toNat)
  case atStart => exact ⟨0, _, 0, 0, [], Nat.zero_le _, Nat.le_refl _, rfl, rfl, TT.nil _ _ _, Below.refl _ _⟩
  case round =>
    obtain ⟨k, co, m, cap, hs, hk, hmk, rfl, rfl, htt, hbel⟩ := hrel
    obtain ⟨wr, hwr⟩ := wname' hbel
    subst hwr
    have hbelw := hbw4.trans (hbel.mono (by omega))
    have hzr := hbel.size
    by_cases hlt : k < n
    · obtain ⟨b, o, l, pa, pc, rfl, hb, hx, hps, g0, g1, g2, g3, g4, g5, g6⟩ := (h4.below hbel (by omega)).at hlt
      obtain ⟨v, hv⟩ := getL_at (i := k) (HBL.out.trans hl.out) hlt
      have hmv := hv
      have hgl : g < w4.heap.size := by obtain ⟨g', e1, _, e3⟩ := HOB.out.blk (by omega); simp at e1; omega
      have hcb := (hbel.cell (p := ⟨g, k, none⟩) hgl).trans (HOB.out.cell hmv)
      have hpl := (okS_at HSZ.out hx).2.2
      have HST := Lib.hid (trimL_step hx)
      have HKB : Hid (keepB ls k l = (v || isOut l || l.kind == 1)) := by show _ = _; unfold keepB; rw [hl.out, ← HBS.out, List.getD_eq_getElem?_getD, hv]; rfl
      have HTT := Lib.hid htt
      clear hx hv hmv htt
      cases v
      · cases k1 : (l.kind == 1)
        · cases k6 : (l.kind == 6)
          · have HK1 : Hid (keepB ls k l = false) := by show _ = _; rw [HKB.out, k1]; simp only [isOut, k6]; rfl
            have HS2 : Hid (trimL ls (k + 1) = trimL ls k) := by show _ = _; rw [HST.out, HK1.out]; simp
            obtain ⟨W3, hW3⟩ : ∃ W3, W3 = wr.alloc (lineObj l pa pc) := ⟨_, rfl⟩
            have hal3 : Below wr.heap.size wr W3 := by rw [hW3]; exact (Below.refl _ _).alloc (Nat.le_refl _) _
            have hz3 : W3.heap.size = wr.heap.size + 1 := by rw [hW3]; simp
            have hn3 : W3.heap[wr.heap.size]? = some (lineObj l pa pc) := by rw [hW3]; exact heap_alloc_new _ _
            have HW3 := Lib.hid hW3
            clear hW3
            unfold lineObj at hn3 HW3
            have hps3 := hps.below hal3 (by omega)
            have HAL3 := Lib.hid hal3
            have e0 := (blk_at hn3 0).1
            have e1 := (blk_at hn3 1).1
            have e2 := (blk_at hn3 2).1
            have e3 := (blk_at hn3 3).1
            have e4 := (blk_at hn3 4).1
            have e5 := (blk_at hn3 5).1
            have e6 := (blk_at hn3 6).1
            simp at e0 e1 e2 e3 e4 e5 e6
            clear hal3
            go_wp2_with (rw [← HW3.out])
            go_roundw
            case rel => exact ⟨k + 1, co, m, cap, hs, by omega, by omega, by go_num, rfl, by rw [HS2.out]; exact HTT.out.below HAL3.out (Nat.le_refl _), hbel.trans (HAL3.out.mono hzr)⟩
            case measure => simp [intOf] <;> omega
          · have HK1 : Hid (keepB ls k l = true) := by show _ = _; rw [HKB.out, k1]; simp only [isOut, k6]; rfl
            obtain ⟨W3, hW3⟩ : ∃ W3, W3 = wr.alloc (lineObj l pa pc) := ⟨_, rfl⟩
            have hal3 : Below wr.heap.size wr W3 := by rw [hW3]; exact (Below.refl _ _).alloc (Nat.le_refl _) _
            have hz3 : W3.heap.size = wr.heap.size + 1 := by rw [hW3]; simp
            have hn3 : W3.heap[wr.heap.size]? = some (lineObj l pa pc) := by rw [hW3]; exact heap_alloc_new _ _
            have HW3 := Lib.hid hW3
            clear hW3
            unfold lineObj at hn3 HW3
            have hps3 := hps.below hal3 (by omega)
            have HAL3 := Lib.hid hal3
            have e0 := (blk_at hn3 0).1
            have e1 := (blk_at hn3 1).1
            have e2 := (blk_at hn3 2).1
            have e3 := (blk_at hn3 3).1
            have e4 := (blk_at hn3 4).1
            have e5 := (blk_at hn3 5).1
            have e6 := (blk_at hn3 6).1
            simp at e0 e1 e2 e3 e4 e5 e6
            clear hal3
            have HS2 : Hid (trimL ls (k + 1) = trimL ls k ++ [l]) := by show _ = _; rw [HST.out, HK1.out]; simp
            go_wp2_with (rw [← HW3.out])
            refine (cloneS_any _ _ _ _ _ _ hps3 (by omega) (by omega)).mono ?_
            rintro e w5 ⟨po, m5, pc5, rfl, hx5, hb5⟩
            obtain rfl : m5 = l.parts.length := hx5.1.symm
            have hn5 := (hb5.block _ (by omega)).trans hn3
            clear e0 e1 e2 e3 e4 e5 e6 hn3
            have x3 := (blk_at hn5 3).1
            have y3 := (blk_at hn5 3).2
            simp at x3
            obtain ⟨W6, hW6⟩ : ∃ W6, W6 = w5.setCell ⟨wr.heap.size, 3, none⟩ (.slice po l.parts.length pc5) := ⟨_, rfl⟩
            have hn6 := blk_set hn5 3 (.slice po l.parts.length pc5)
            simp at hn6
            rw [← hW6] at hn6
            have hb36 : Below wr.heap.size wr W6 := by rw [hW6]; exact below_set (HAL3.out.trans (hb5.mono (by omega))) _ _ (Nat.le_refl _)
            have hx6 : OwnSt W3.heap.size W6 po l.parts.length pc5 l.parts := by rw [hW6]; exact hx5.other (grown_setC _ ⟨_, _, none⟩ _) (fun p q hp hq => by have := (hx5.rowLt p hp).1; simp at hq; omega)
            have hz6 := hb36.size
            have HW6 := Lib.hid hW6
            clear hW6
            have c0 := (blk_at hn6 0).1
            have c1 := (blk_at hn6 1).1
            have c2 := (blk_at hn6 2).1
            have c3 := (blk_at hn6 3).1
            have c4 := (blk_at hn6 4).1
            have c5 := (blk_at hn6 5).1
            have c6 := (blk_at hn6 6).1
            simp at c0 c1 c2 c3 c4 c5 c6
            clear hn5 hn6
            have htt6 := HTT.out.below hb36 (Nat.le_refl _)
            have hrw : ∀ (i : Nat) (y : Option Addr × Nat) (p : Nat), hs[i]? = some y → rowOf y.1 y.2 = some p → p < W3.heap.size := fun i y p q1 q2 => by have := HTT.out.rows i y p q1 q2; omega
            go_wp2_with (first | rw [← HW6.out] | (at_builtin; refine wpList_append_l rfl _ _ rfl w4.heap.size W3.heap.size _ _ _ hs _ l _ _ rfl (by first | rfl | (simp; rfl)) htt6 hx6 hrw (by omega) (by omega) (by omega) ?_; intro ao' cap' w9 htt9 hg9))
            have hbe9 := (hbel.trans (hb36.mono hzr)).grown hg9 (by omega) (fun q hq => (htt6.row.rowLt q hq).1)
            go_roundw
            case rel => exact ⟨k + 1, ao', m + 1, cap', _, by omega, by omega, by go_num, rfl, by rw [HS2.out]; exact htt9, hbe9⟩
            case measure => simp [intOf] <;> omega
        · have HK1 : Hid (keepB ls k l = true) := by show _ = _; rw [HKB.out, k1]; simp
          obtain ⟨W3, hW3⟩ : ∃ W3, W3 = wr.alloc (lineObj l pa pc) := ⟨_, rfl⟩
          have hal3 : Below wr.heap.size wr W3 := by rw [hW3]; exact (Below.refl _ _).alloc (Nat.le_refl _) _
          have hz3 : W3.heap.size = wr.heap.size + 1 := by rw [hW3]; simp
          have hn3 : W3.heap[wr.heap.size]? = some (lineObj l pa pc) := by rw [hW3]; exact heap_alloc_new _ _
          have HW3 := Lib.hid hW3
          clear hW3
          unfold lineObj at hn3 HW3
          have hps3 := hps.below hal3 (by omega)
          have HAL3 := Lib.hid hal3
          have e0 := (blk_at hn3 0).1
          have e1 := (blk_at hn3 1).1
          have e2 := (blk_at hn3 2).1
          have e3 := (blk_at hn3 3).1
          have e4 := (blk_at hn3 4).1
          have e5 := (blk_at hn3 5).1
          have e6 := (blk_at hn3 6).1
          simp at e0 e1 e2 e3 e4 e5 e6
          clear hal3
          have HS2 : Hid (trimL ls (k + 1) = trimL ls k ++ [l]) := by show _ = _; rw [HST.out, HK1.out]; simp
          go_wp2_with (rw [← HW3.out])
          refine (cloneS_any _ _ _ _ _ _ hps3 (by omega) (by omega)).mono ?_
          rintro e w5 ⟨po, m5, pc5, rfl, hx5, hb5⟩
          obtain rfl : m5 = l.parts.length := hx5.1.symm
          have hn5 := (hb5.block _ (by omega)).trans hn3
          clear e0 e1 e2 e3 e4 e5 e6 hn3
          have x3 := (blk_at hn5 3).1
          have y3 := (blk_at hn5 3).2
          simp at x3
          obtain ⟨W6, hW6⟩ : ∃ W6, W6 = w5.setCell ⟨wr.heap.size, 3, none⟩ (.slice po l.parts.length pc5) := ⟨_, rfl⟩
          have hn6 := blk_set hn5 3 (.slice po l.parts.length pc5)
          simp at hn6
          rw [← hW6] at hn6
          have hb36 : Below wr.heap.size wr W6 := by rw [hW6]; exact below_set (HAL3.out.trans (hb5.mono (by omega))) _ _ (Nat.le_refl _)
          have hx6 : OwnSt W3.heap.size W6 po l.parts.length pc5 l.parts := by rw [hW6]; exact hx5.other (grown_setC _ ⟨_, _, none⟩ _) (fun p q hp hq => by have := (hx5.rowLt p hp).1; simp at hq; omega)
          have hz6 := hb36.size
          have HW6 := Lib.hid hW6
          clear hW6
          have c0 := (blk_at hn6 0).1
          have c1 := (blk_at hn6 1).1
          have c2 := (blk_at hn6 2).1
          have c3 := (blk_at hn6 3).1
          have c4 := (blk_at hn6 4).1
          have c5 := (blk_at hn6 5).1
          have c6 := (blk_at hn6 6).1
          simp at c0 c1 c2 c3 c4 c5 c6
          clear hn5 hn6
          have htt6 := HTT.out.below hb36 (Nat.le_refl _)
          have hrw : ∀ (i : Nat) (y : Option Addr × Nat) (p : Nat), hs[i]? = some y → rowOf y.1 y.2 = some p → p < W3.heap.size := fun i y p q1 q2 => by have := HTT.out.rows i y p q1 q2; omega
          go_wp2_with (first | rw [← HW6.out] | (at_builtin; refine wpList_append_l rfl _ _ rfl w4.heap.size W3.heap.size _ _ _ hs _ l _ _ rfl (by first | rfl | (simp; rfl)) htt6 hx6 hrw (by omega) (by omega) (by omega) ?_; intro ao' cap' w9 htt9 hg9))
          have hbe9 := (hbel.trans (hb36.mono hzr)).grown hg9 (by omega) (fun q hq => (htt6.row.rowLt q hq).1)
          go_roundw
          case rel => exact ⟨k + 1, ao', m + 1, cap', _, by omega, by omega, by go_num, rfl, by rw [HS2.out]; exact htt9, hbe9⟩
          case measure => simp [intOf] <;> omega
      · have HK1 : Hid (keepB ls k l = true) := by show _ = _; rw [HKB.out]; simp
        obtain ⟨W3, hW3⟩ : ∃ W3, W3 = wr.alloc (lineObj l pa pc) := ⟨_, rfl⟩
        have hal3 : Below wr.heap.size wr W3 := by rw [hW3]; exact (Below.refl _ _).alloc (Nat.le_refl _) _
        have hz3 : W3.heap.size = wr.heap.size + 1 := by rw [hW3]; simp
        have hn3 : W3.heap[wr.heap.size]? = some (lineObj l pa pc) := by rw [hW3]; exact heap_alloc_new _ _
        have HW3 := Lib.hid hW3
        clear hW3
        unfold lineObj at hn3 HW3
        have hps3 := hps.below hal3 (by omega)
        have HAL3 := Lib.hid hal3
        have e0 := (blk_at hn3 0).1
        have e1 := (blk_at hn3 1).1
        have e2 := (blk_at hn3 2).1
        have e3 := (blk_at hn3 3).1
        have e4 := (blk_at hn3 4).1
        have e5 := (blk_at hn3 5).1
        have e6 := (blk_at hn3 6).1
        simp at e0 e1 e2 e3 e4 e5 e6
        clear hal3
        have HS2 : Hid (trimL ls (k + 1) = trimL ls k ++ [l]) := by show _ = _; rw [HST.out, HK1.out]; simp
        go_wp2_with (rw [← HW3.out])
        refine (cloneS_any _ _ _ _ _ _ hps3 (by omega) (by omega)).mono ?_
        rintro e w5 ⟨po, m5, pc5, rfl, hx5, hb5⟩
        obtain rfl : m5 = l.parts.length := hx5.1.symm
        have hn5 := (hb5.block _ (by omega)).trans hn3
        clear e0 e1 e2 e3 e4 e5 e6 hn3
        have x3 := (blk_at hn5 3).1
        have y3 := (blk_at hn5 3).2
        simp at x3
        obtain ⟨W6, hW6⟩ : ∃ W6, W6 = w5.setCell ⟨wr.heap.size, 3, none⟩ (.slice po l.parts.length pc5) := ⟨_, rfl⟩
        have hn6 := blk_set hn5 3 (.slice po l.parts.length pc5)
        simp at hn6
        rw [← hW6] at hn6
        have hb36 : Below wr.heap.size wr W6 := by rw [hW6]; exact below_set (HAL3.out.trans (hb5.mono (by omega))) _ _ (Nat.le_refl _)
        have hx6 : OwnSt W3.heap.size W6 po l.parts.length pc5 l.parts := by rw [hW6]; exact hx5.other (grown_setC _ ⟨_, _, none⟩ _) (fun p q hp hq => by have := (hx5.rowLt p hp).1; simp at hq; omega)
        have hz6 := hb36.size
        have HW6 := Lib.hid hW6
        clear hW6
        have c0 := (blk_at hn6 0).1
        have c1 := (blk_at hn6 1).1
        have c2 := (blk_at hn6 2).1
        have c3 := (blk_at hn6 3).1
        have c4 := (blk_at hn6 4).1
        have c5 := (blk_at hn6 5).1
        have c6 := (blk_at hn6 6).1
        simp at c0 c1 c2 c3 c4 c5 c6
        clear hn5 hn6
        have htt6 := HTT.out.below hb36 (Nat.le_refl _)
        have hrw : ∀ (i : Nat) (y : Option Addr × Nat) (p : Nat), hs[i]? = some y → rowOf y.1 y.2 = some p → p < W3.heap.size := fun i y p q1 q2 => by have := HTT.out.rows i y p q1 q2; omega
        go_wp2_with (first | rw [← HW6.out] | (at_builtin; refine wpList_append_l rfl _ _ rfl w4.heap.size W3.heap.size _ _ _ hs _ l _ _ rfl (by first | rfl | (simp; rfl)) htt6 hx6 hrw (by omega) (by omega) (by omega) ?_; intro ao' cap' w9 htt9 hg9))
        have hbe9 := (hbel.trans (hb36.mono hzr)).grown hg9 (by omega) (fun q hq => (htt6.row.rowLt q hq).1)
        go_roundw
        case rel => exact ⟨k + 1, ao', m + 1, cap', _, by omega, by omega, by go_num, rfl, by rw [HS2.out]; exact htt9, hbe9⟩
        case measure => simp [intOf] <;> omega
    · obtain rfl : k = n := by omega
      have HTT := Lib.hid htt
      clear htt
      go_wp2_with fail
      go_ret2
      exact RetTB.eq HF.out (HTT.out.up (by omega)) hbelw
end Go.Proofs.Ytglehpmaniabbaa
