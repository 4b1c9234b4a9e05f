/-
  The language: the reference's test of programs.
-/
import Derived.Test.YtdlddkgmjpmenaaGreatDoorLn6
namespace Go.Proofs.YtdlddkgmjpmenaaGreatDoor
open Go.RowKit
set_option linter.unusedVariables false
set_option linter.unusedSimpArgs false

theorem laWidthsFrom_append : ∀ (a b done : List Ln) (ws : List Int), laWidthsFrom done ws (a ++ b) = laWidthsFrom (done ++ a) (laWidthsFrom done ws a) b
  | [], b, done, ws => by simp [laWidthsFrom]
  | x :: a, b, done, ws => by
    rw [List.cons_append, laWidthsFrom, laWidthsFrom_append a b, laWidthsFrom]
    simp
theorem laWidths_get {ls : List Ln} {k : Nat} {x : Ln} (h : ls[k]? = some x) : (laWidths ls)[k]? = some (laWidth (ls.take k) (laWidths (ls.take k)) x) := by
  have hk : k < ls.length := (List.getElem?_eq_some_iff.1 h).1
  obtain ⟨t, ht, _⟩ := laWidthsFrom_prefix (ls.drop (k + 1)) (ls.take (k + 1)) (laWidths (ls.take (k + 1)))
  have e : laWidths ls = laWidths (ls.take (k + 1)) ++ t := by
    have e1 : laWidths ls = laWidthsFrom [] [] (ls.take (k + 1) ++ ls.drop (k + 1)) := by rw [List.take_append_drop]; rfl
    rw [e1, laWidthsFrom_append, List.nil_append]
    exact ht
  have hl : (laWidths (ls.take k)).length = k := by rw [laWidths_length]; simp; omega
  rw [e, laWidths_step h, List.append_assoc, List.getElem?_append_right (by omega), hl, Nat.sub_self]
  rfl
theorem input_ok {done : List Ln} {ws : List Int} {x : Ln} (h : laWidth done ws x ≠ 0) (hk : x.kind = 1) : 1 ≤ x.width ∧ x.width ≤ 10 := by
  unfold laWidth at h
  split at h
  · exact (h rfl).elim
  split at h
  · exact (h rfl).elim
  split at h
  · exact (h rfl).elim
  unfold kindW at h
  rw [if_pos hk] at h
  split at h
  · next g => simp only [Bool.and_eq_true, inB_iff] at g; exact g.2
  · exact (h rfl).elim
theorem inputs_ok {ls : List Ln} (h : okW (laWidths ls)) (p : Int) : okW (inputsL ls p) := by
  intro i y hy
  have hm := List.mem_of_getElem? hy
  unfold inputsL at hm
  rw [List.mem_map] at hm
  obtain ⟨x, hx, rfl⟩ := hm
  rw [List.mem_filter] at hx
  obtain ⟨hx, hb⟩ := hx
  obtain ⟨k, hk⟩ := List.getElem?_of_mem hx
  have h1 := h k _ (laWidths_get hk)
  simp only [Bool.and_eq_true, beq_iff_eq] at hb
  exact input_ok (fun e => by rw [e] at h1; omega) hb.1
theorem inputs_len (ls : List Ln) (p : Int) : (inputsL ls p).length ≤ ls.length := by
  unfold inputsL
  rw [List.length_map]
  exact List.length_filter_le _ _
theorem all_allIn (ws : List Int) : ws.all (fun w => inB w 1 10) = allIn 1 10 ws := rfl
set_option maxRecDepth 20000 in
set_option maxHeartbeats 4000000 in
theorem laGood_any (w : World) (ao : Option Addr) (n c : Nat) (ls : List Ln) (h : Lns w w.heap.size ao n ls) (hs : okS ls) (hnc : n ≤ c) :
    Calls Tryz.prog 48 #[.slice ao n c] w (RetB (laGoodF ls) w) := by
  have hl := h.1
  by_cases h30 : n ≤ 30
  rotate_left
  · have HF : Hid (laGoodF ls = false) := by show _ = _; unfold laGoodF; rw [show decide (ls.length ≤ 30) = false from by simp; omega, Bool.false_and]
    have h30' : ¬ (n : Int) ≤ 30 := by omega
    clear hl
    go_enter Tryz.func48, Tryz.ntmps48
    go_wp2_with fail
    go_ret
    exact ⟨ret_bool HF.out.symm, Below.refl _ _⟩
  have h30' : (n : Int) ≤ 30 := by omega
  have HL30 : Hid (decide (ls.length ≤ 30) = true) := by show _ = _; simp; omega
  have HLE := Lib.hid hl
  have hn1 : n ≤ 1048576 := by omega
  clear hl
  go_enter Tryz.func48, Tryz.ntmps48
  go_wp2_with fail
  refine (laWidths_any _ _ _ _ _ h hs hn1 hnc).mono ?_
  rintro e w1 ⟨a1, n1, c1, rfl, ho1, hb1⟩
  have hI := ho1.ints
  go_wp2_with fail
  refine (l1All_any _ _ _ _ _ _ _ _ hI).mono ?_
  rintro e w' ⟨rfl, rfl⟩
  cases hall : allIn 1 10 (laWidths ls)
  · have HF : Hid (laGoodF ls = false) := by show _ = _; unfold laGoodF; rw [all_allIn, hall, HL30.out]; rfl
    go_wp2_with fail
    go_ret
    exact ⟨ret_bool HF.out.symm, hb1⟩
  have hokw := okW_all.2 (show (laWidths ls).all (fun w => inB w 1 10) = true from hall)
  have HOK := Lib.hid hokw
  have HALL := Lib.hid hall
  clear hokw hall hI ho1
  go_wp2_with fail
  refine (laInputs_any _ w.heap.size _ _ _ _ _ (h.below hb1 (Nat.le_refl _)) hb1.size hn1).mono ?_
  rintro e w2 ⟨a2, n2, c2, rfl, ho2, hb2⟩
  have hl2 : n2 ≤ 1000 := by have h1 := ho2.1; have h2 := inputs_len ls 0; have h3 := HLE.out; omega
  have hbw2 := hb1.trans (hb2.mono hb1.size)
  go_wp2_with fail
  refine (laSum_any _ _ _ _ _ _ ho2.ints hl2 (inputs_ok HOK.out 0)).mono ?_
  rintro e w' ⟨rfl, rfl⟩
  by_cases hs0 : sumL' (inputsL ls 0) ≤ 20
  rotate_left
  · have HF : Hid (laGoodF ls = false) := by show _ = _; unfold laGoodF; rw [all_allIn, HALL.out, HL30.out, show decide (sumL' (inputsL ls 0) ≤ 20) = false from by simpa using hs0]; rfl
    go_wp2_with fail
    go_ret
    exact ⟨ret_bool HF.out.symm, hbw2⟩
  have HS0 : Hid (decide (sumL' (inputsL ls 0) ≤ 20) = true) := by show _ = _; simpa using hs0
  go_wp2_with fail
  refine (laInputs_any _ w.heap.size _ _ _ _ _ (h.below hbw2 (Nat.le_refl _)) hbw2.size hn1).mono ?_
  rintro e w3 ⟨a3, n3, c3, rfl, ho3, hb3⟩
  have hl3 : n3 ≤ 1000 := by have h1 := ho3.1; have h2 := inputs_len ls 1; have h3 := HLE.out; omega
  have hbw3 := hbw2.trans (hb3.mono hbw2.size)
  go_wp2_with fail
  refine (laSum_any _ _ _ _ _ _ ho3.ints hl3 (inputs_ok HOK.out 1)).mono ?_
  rintro e w' ⟨rfl, rfl⟩
  by_cases hs1 : sumL' (inputsL ls 1) ≤ 20
  rotate_left
  · have HF : Hid (laGoodF ls = false) := by show _ = _; unfold laGoodF; rw [all_allIn, HALL.out, HL30.out, HS0.out, show decide (sumL' (inputsL ls 1) ≤ 20) = false from by simpa using hs1]; rfl
    go_wp2_with fail
    go_ret
    exact ⟨ret_bool HF.out.symm, hbw3⟩
  have HS1 : Hid (decide (sumL' (inputsL ls 1) ≤ 20) = true) := by show _ = _; simpa using hs1
  go_wp2_with fail
  refine (laOuts_any _ _ _ _ _ ((h.below hbw3 (Nat.le_refl _)).up hbw3.size) hs hn1 hnc).mono ?_
  rintro e w4 ⟨a4, n4, c4, rfl, ho4, hb4⟩
  have HF : Hid (laGoodF ls = decide (n4 ≤ 10)) := by show _ = _; unfold laGoodF; rw [all_allIn, HALL.out, HL30.out, HS0.out, HS1.out, ho4.1]; rfl
  have hbw4 := hbw3.trans (hb4.mono hbw3.size)
  by_cases h10 : n4 ≤ 10
  · have h10' : (n4 : Int) ≤ 10 := by omega
    go_wp2_with fail
    go_ret
    exact ⟨ret_bool (by rw [HF.out]; simp [h10]), hbw4⟩
  · have h10' : ¬ (n4 : Int) ≤ 10 := by omega
    go_wp2_with fail
    go_ret
    exact ⟨ret_bool (by rw [HF.out]; simp; omega), hbw4⟩
theorem spec_IsProgram_any (w : World) (ao : Option Addr) (n c : Nat) (ls : List Ln) (h : Lns w w.heap.size ao n ls) (hs : okS ls) (hnc : n ≤ c) :
    Calls Tryz.prog 22 #[.slice ao n c] w (RetB (laGoodF ls) w) := by
  go_enter Tryz.func22, Tryz.ntmps22
  go_wp2_with fail
  refine (laGood_any _ _ _ _ _ h hs hnc).mono ?_
  rintro e w1 ⟨rfl, hb1⟩
  go_wp2_with fail
  go_ret
  exact ⟨rfl, hb1⟩
end Go.Proofs.YtdlddkgmjpmenaaGreatDoor
