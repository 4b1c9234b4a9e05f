/-
  CountDigests, both ways: a sorted list that grows, and a list that is sorted and compacted.
-/
import Derived.Test.YtilkgidilhgjeaaNum
import Derived.Test.YtilkgidilhgjeaaWord
import Derived.Test.YtilkgidilhgjeaaPut
import Derived.Test.YtilkgidilhgjeaaPl3
import Derived.Test.YtilkgidilhgjeaaShelf
namespace Go.Proofs.Ytilkgidilhgjeaa
open Go.RowKit
set_option linter.unusedVariables false
set_option linter.unusedSimpArgs false

def seqL (first : Int) (n : Nat) : List Int := (List.range n).map fun (i : Nat) => mixL [first + (i : Int)]
theorem seqL_snoc (first : Int) (n : Nat) : seqL first (n + 1) = seqL first n ++ [mixL [first + (n : Int)]] := by simp [seqL, List.range_succ]
theorem seqL_length (first : Int) (n : Nat) : (seqL first n).length = n := by simp [seqL]
def cntOk (first n : Int) : Bool := inB n 0 200 && wordB first && wordB (first + mx (n - 1) 0)
def countF (first n : Int) : Int × Bool := if cntOk first n = true then (((putAll (seqL first n.toNat)).length : Int), true) else (0, false)
theorem cntOk_facts {first n : Int} (h : cntOk first n = true) : 0 ≤ n ∧ n ≤ 200 ∧ -1000000000 ≤ first ∧ first ≤ 1000000000 ∧ (∀ i : Int, 0 ≤ i → i < n → -1000000000 ≤ first + i ∧ first + i ≤ 1000000000) := by
  simp only [cntOk, wordB, Bool.and_eq_true, inB_iff] at h
  obtain ⟨⟨h1, h2⟩, h3⟩ := h
  unfold mx at h3
  split at h3
  all_goals exact ⟨h1.1, h1.2, h2.1, h2.2, fun i h0 hi => by omega⟩
theorem words1B (x : Int) (m : Int) (hm : 1 ≤ m) : wordsB [x] m = wordB x := by
  unfold wordsB wordB
  rw [decide_eq_true (by simpa using hm)]
  simp [allIn]
set_option maxRecDepth 20000 in
set_option maxHeartbeats 2000000 in
theorem spec_CountDigests_any (first n : Int) (w : World) : Calls Try.prog 36 #[.int .i64 first, .int .i64 n] w (RetNB (countF first n) w) := by
  cases h1 : inB n 0 200
  · have HF : Hid (countF first n = (0, false)) := by show _ = _; simp [countF, cntOk, h1]
    go_enter Try.func36, Try.ntmps36
    go_wp2_with fail
    refine (l1In_any _ _ _ _).mono ?_
    rintro e w' ⟨rfl, rfl⟩
    rw [h1]
    go_wp2_with fail
    go_ret2
    exact ⟨by simp [HF.out], Below.refl _ _⟩
  have hn := inB_iff.1 h1
  have hb0 : Below w.heap.size w (w.alloc (.cells #[.int .i64 first] 3)) := (Below.refl _ _).alloc (Nat.le_refl _) _
  cases h2 : wordB first
  · have HF : Hid (countF first n = (0, false)) := by show _ = _; simp [countF, cntOk, h1, h2]
    have hg := (words1B first 1 (by decide)).trans h2
    go_enter Try.func36, Try.ntmps36
    go_wp2_with fail
    refine (l1In_any _ _ _ _).mono ?_
    rintro e w' ⟨rfl, rfl⟩
    rw [h1]
    go_wp2_with fail
    refine (dgList_any _ _ _ _ _ _ _ (ints_lit w [first] (by simp))).mono ?_
    rintro e w' ⟨rfl, rfl⟩
    rw [hg]
    go_wp2_with fail
    go_ret2
    exact ⟨by simp [HF.out], hb0⟩
  have hf := inB_iff.1 h2
  have hg := (words1B first 1 (by decide)).trans h2
  obtain ⟨x, hx⟩ : ∃ x, x = mx (n - 1) 0 := ⟨_, rfl⟩
  have hxb : 0 ≤ x ∧ x ≤ 200 := by rw [hx]; unfold mx; split <;> omega
  have HX := Lib.hid hx
  clear hx
  obtain ⟨hf0, hf1⟩ := hf
  obtain ⟨hn0, hn1⟩ := hn
  obtain ⟨hx0, hx1⟩ := hxb
  have hb1 : Below w.heap.size w ((w.alloc (.cells #[.int .i64 first] 3)).alloc (.cells #[.int .i64 (first + x)] 3)) := ((Below.refl _ _).alloc (Nat.le_refl _) _).alloc (by simp) _
  have hI2 := ints_lit (w.alloc (.cells #[.int .i64 first] 3)) [first + x] (by simp)
  rw [show (w.alloc (.cells #[.int .i64 first] 3)).heap.size = w.heap.size + 1 from by simp] at hI2
  have HI2 := Lib.hid hI2
  clear hI2
  cases h3 : wordB (first + x)
  · have HF : Hid (countF first n = (0, false)) := by show _ = _; rw [countF, cntOk, h1, h2, ← HX.out, h3]; rfl
    have hg2 := (words1B (first + x) 1 (by decide)).trans h3
    go_enter Try.func36, Try.ntmps36
    go_wp2_with fail
    refine (l1In_any _ _ _ _).mono ?_
    rintro e w' ⟨rfl, rfl⟩
    rw [h1]
    go_wp2_with fail
    refine (dgList_any _ _ _ _ _ _ _ (ints_lit w [first] (by simp))).mono ?_
    rintro e w' ⟨rfl, rfl⟩
    rw [hg]
    go_wp2_with fail
    refine (l1Most_any _ _ _).mono ?_
    rintro e w' ⟨rfl, rfl⟩
    rw [← HX.out]
    go_wp2_with fail
    refine (dgList_any _ _ _ _ _ _ _ HI2.out).mono ?_
    rintro e w' ⟨rfl, rfl⟩
    rw [hg2]
    go_wp2_with fail
    go_ret2
    exact ⟨by simp [HF.out], hb1⟩
  have hg2 := (words1B (first + x) 1 (by decide)).trans h3
  have hok : cntOk first n = true := by rw [cntOk, h1, h2, ← HX.out, h3]; rfl
  obtain ⟨_, _, _, _, hall⟩ := cntOk_facts hok
  have HALL := Lib.hid hall
  obtain ⟨n, rfl⟩ := Int.eq_ofNat_of_zero_le hn0
  have HF : Hid (countF first (n : Int) = (((putAll (seqL first n)).length : Int), true)) := by show _ = _; rw [countF, if_pos hok]; rfl
  clear hall hok
  go_enter Try.func36, Try.ntmps36
  go_wp2_with fail
  refine (l1In_any _ _ _ _).mono ?_
  rintro e w' ⟨rfl, rfl⟩
  rw [h1]
  go_wp2_with fail
  refine (dgList_any _ _ _ _ _ _ _ (ints_lit w [first] (by simp))).mono ?_
  rintro e w' ⟨rfl, rfl⟩
  rw [hg]
  go_wp2_with fail
  refine (l1Most_any _ _ _).mono ?_
  rintro e w' ⟨rfl, rfl⟩
  rw [← HX.out]
  go_wp2_with fail
  refine (dgList_any _ _ _ _ _ _ _ HI2.out).mono ?_
  rintro e w' ⟨rfl, rfl⟩
  rw [hg2]
  clear hg hg2 h1 h2 h3
  have hz1 := hb1.size
  go_wp2_with fail
  go_loopw [6, 7] (fun out i wr => ∃ (k m : Nat) (bo : Option Addr) (cap : Nat), k ≤ n ∧ i = .int .i64 k ∧ out = .slice bo m cap ∧ m ≤ k ∧ OwnI w.heap.size wr bo m cap (putAll (seqL first k)) ∧ Below w.heap.size w wr) (fun _ i _ => n - (intOf i).toNat)
  case atStart => exact ⟨0, 0, _, 0, Nat.zero_le _, rfl, rfl, Nat.le_refl _, OwnI.nil _ _ _, hb1⟩
  case round =>
    obtain ⟨k, m, bo, cap, hk, rfl, rfl, hmk, hout, hbel⟩ := hrel
    by_cases hlt : k < n
    · have HS : Hid (putAll (seqL first (k + 1)) = putL (putAll (seqL first k)) (mixL [first + (k : Int)])) := by show _ = _; rw [seqL_snoc, putAll_snoc]
      have hwk := HALL.out (k : Int) (by omega) (by omega)
      have HW : Hid (allIn (-1000000000) 1000000000 [first + (k : Int)] = true) := words1 hwk.1 hwk.2
      have hal : Below wr.heap.size wr (wr.alloc (.cells #[.int .i64 (first + (k : Int))] 3)) := (Below.refl _ _).alloc (Nat.le_refl _) _
      have hmx := mixL_bd [first + (k : Int)]
      go_wp2_with fail
      refine (dgMix_any _ _ _ _ _ (ints_lit wr [first + (k : Int)] (by simp)) (by simp) HW.out).mono ?_
      rintro e w2 ⟨rfl, hb2⟩
      have hbr := hal.trans (hb2.mono hal.size)
      have hout2 := hout.below hbr (Nat.le_refl _)
      have hbw := hbel.trans (hbr.mono hbel.size)
      go_wp2_with fail
      refine (l1Put_any _ _ _ _ _ _ _ hout2 hbw.size (by omega)).mono ?_
      rintro e w3 ⟨ao3, n3, cap3, rfl, hown3, hb3⟩
      have hn3 : n3 ≤ k + 1 := by have h1 := hown3.1; have h2 := putL_length (putAll (seqL first k)) (mixL [first + (k : Int)]); have h3 := hout.1; omega
      go_wp2_with fail
      go_roundw
      case rel => exact ⟨k + 1, n3, ao3, cap3, by omega, by go_num, rfl, hn3, by rw [HS.out]; exact hown3, hbw.trans (hb3.mono hbw.size)⟩
      case measure => simp [intOf] <;> omega
    · obtain rfl : k = n := by omega
      have hl := Lib.hid hout.1
      go_wp2_with fail
      go_ret2
      exact ⟨by simp [HF.out, hl.out], hbel⟩
/-- Behind the library's sort. -/
theorem sorted_after {B g n cap q : Nat} {w : World} {xs ys : List Int} {os : Array Obj} (h : OwnI B w (some ⟨g, 0, none⟩) n cap xs) (hn : 0 < n) (hy : ys.length = n) :
    Go.Sort.Holds (Value.int .i64) w g 0 xs.toArray ∧ g < w.heap.size ∧ Go.Sort.Holds (Value.int .i64) (Go.Sort.grow (Go.Sort.putRow (Value.int .i64) (Go.Sort.ahead w q) g 0 ys.toArray) os) g 0 ys.toArray ∧ w.grownBy (Go.Sort.grow (Go.Sort.putRow (Value.int .i64) (Go.Sort.ahead w q) g 0 ys.toArray) os) (some g) := by
  obtain ⟨g', hg', hB, hlt, hr⟩ := h.2.2.some hn
  simp only [Option.some.injEq, Addr.mk.injEq] at hg'
  obtain ⟨rfl, _⟩ := hg'
  have hl := h.1
  have hH : Go.Sort.Holds (Value.int .i64) w g 0 xs.toArray := by
    intro j hj
    have hj' : j < xs.length := by simpa using hj
    refine ⟨?_, by rw [Nat.zero_add]; exact World.ownsRow.frozenAt hr j⟩
    rw [Nat.zero_add, World.ownsRow.cellAt hr j (by omega), List.getElem?_map, List.getElem?_eq_getElem hj', getElem!_pos _ j hj]
    simp
  have hH2 := Go.Sort.holds_putRow (Value.int .i64) (Go.Sort.ahead w q) g 0 xs.toArray ys.toArray hH (by simp [hl, hy])
  have hsz : (Go.Sort.putRow (Value.int .i64) (Go.Sort.ahead w q) g 0 ys.toArray).heap.size = w.heap.size := by
    simp [Go.Sort.putRow, Go.Sort.mapBlock, Go.Sort.ahead]
  refine ⟨hH, hlt, Go.Sort.holds_grow _ _ _ _ _ _ (by rw [hsz]; exact hlt) hH2, rfl, rfl, rfl, ?_, fun k hk hne => ?_⟩
  · simp [Go.Sort.grow, hsz]
  · rw [Go.Sort.heap_grow_old _ _ (by rw [hsz]; exact hk)]
    simp only [Go.Sort.putRow, Go.Sort.mapBlock, Go.Sort.ahead, Array.getElem?_modify]
    have : g ≠ k := fun e => hne (by rw [e])
    simp [this]
set_option maxRecDepth 20000 in
set_option maxHeartbeats 2000000 in
theorem impl_CountDigests_any (first n : Int) (w : World) : Calls Try.prog 37 #[.int .i64 first, .int .i64 n] w (RetNB (countF first n) w) := by
  cases h1 : inB n 0 200
  · have HF : Hid (countF first n = (0, false)) := by show _ = _; simp [countF, cntOk, h1]
    go_enter Try.func37, Try.ntmps37
    go_wp2_with fail
    refine (within_any _ _ _ _).mono ?_
    rintro e w' ⟨rfl, rfl⟩
    rw [h1]
    go_wp2_with fail
    go_ret2
    exact ⟨by simp [HF.out], Below.refl _ _⟩
  have hn := inB_iff.1 h1
  cases h2 : inB first (-1000000000) 1000000000
  · have HF : Hid (countF first n = (0, false)) := by show _ = _; simp [countF, cntOk, wordB, h1, h2]
    go_enter Try.func37, Try.ntmps37
    go_wp2_with fail
    refine (within_any _ _ _ _).mono ?_
    rintro e w' ⟨rfl, rfl⟩
    rw [h1]
    go_wp2_with fail
    refine (isWord_any _ _).mono ?_
    rintro e w' ⟨rfl, rfl⟩
    rw [h2]
    go_wp2_with fail
    go_ret2
    exact ⟨by simp [HF.out], Below.refl _ _⟩
  have hf := inB_iff.1 h2
  by_cases h0 : n = 0
  · subst h0
    have HF : Hid (countF first 0 = (0, true)) := by
      show _ = _
      have hok : cntOk first 0 = true := by
        rw [cntOk, h1, wordB, h2, wordB, show first + mx (0 - 1) 0 = first by unfold mx; simp, h2]; rfl
      rw [countF, if_pos hok]; rfl
    go_enter Try.func37, Try.ntmps37
    go_wp2_with fail
    refine (within_any _ _ _ _).mono ?_
    rintro e w' ⟨rfl, rfl⟩
    rw [h1]
    go_wp2_with fail
    refine (isWord_any _ _).mono ?_
    rintro e w' ⟨rfl, rfl⟩
    rw [h2]
    go_wp2_with fail
    refine wp_loop_rounds 1 ?_
    rw [rounds_succ]
    go_wp2_with fail
    refine (Try.slices_Sort_int_none _ _ _).mono ?_
    rintro e w1 ⟨rfl, rfl⟩
    go_wp2_with fail
    refine (Try.slices_Compact_int_empty _ _ _).mono ?_
    rintro e w1 ⟨rfl, rfl⟩
    go_wp2_with fail
    go_ret2
    exact ⟨by simp [HF.out], (Below.refl _ _).alloc (Nat.le_refl _) _⟩
  obtain ⟨n, rfl⟩ := Int.eq_ofNat_of_zero_le hn.1
  have hx : mx ((n : Int) - 1) 0 = (n : Int) - 1 := by unfold mx; split <;> omega
  have hpos : (0 : Int) < n := by omega
  cases h3 : inB (first + n - 1) (-1000000000) 1000000000
  · have HF : Hid (countF first (n : Int) = (0, false)) := by show _ = _; rw [countF, cntOk, h1, wordB, h2, wordB, hx, show first + ((n : Int) - 1) = first + n - 1 by omega, h3]; rfl
    clear hx
    go_enter Try.func37, Try.ntmps37
    go_wp2_with fail
    refine (within_any _ _ _ _).mono ?_
    rintro e w' ⟨rfl, rfl⟩
    rw [h1]
    go_wp2_with fail
    refine (isWord_any _ _).mono ?_
    rintro e w' ⟨rfl, rfl⟩
    rw [h2]
    go_wp2_with fail
    refine (isWord_any _ _).mono ?_
    rintro e w' ⟨rfl, rfl⟩
    rw [h3]
    go_wp2_with fail
    go_ret2
    exact ⟨by simp [HF.out], Below.refl _ _⟩
  have hok : cntOk first n = true := by rw [cntOk, h1, wordB, h2, wordB, hx, show first + ((n : Int) - 1) = first + n - 1 by omega, h3]; rfl
  obtain ⟨_, _, _, _, hall⟩ := cntOk_facts hok
  have HALL := Lib.hid hall
  have HF : Hid (countF first (n : Int) = (((putAll (seqL first n)).length : Int), true)) := by show _ = _; rw [countF, if_pos hok]; rfl
  clear hall hok hx
  go_enter Try.func37, Try.ntmps37
  go_wp2_with fail
  refine (within_any _ _ _ _).mono ?_
  rintro e w' ⟨rfl, rfl⟩
  rw [h1]
  go_wp2_with fail
  refine (isWord_any _ _).mono ?_
  rintro e w' ⟨rfl, rfl⟩
  rw [h2]
  go_wp2_with fail
  refine (isWord_any _ _).mono ?_
  rintro e w' ⟨rfl, rfl⟩
  rw [h3]
  clear h1 h2 h3
  obtain ⟨hf0, hf1⟩ := hf
  obtain ⟨hn0, hn1⟩ := hn
  go_wp2_with fail
  go_loopw [6, 30] (fun out i wr => ∃ (k : Nat) (bo : Option Addr) (cap : Nat), k ≤ n ∧ i = .int .i64 k ∧ out = .slice bo k cap ∧ OwnI w.heap.size wr bo k cap (seqL first k) ∧ Below w.heap.size w wr) (fun _ i _ => n - (intOf i).toNat)
  case atStart => exact ⟨0, _, 0, Nat.zero_le _, rfl, rfl, OwnI.nil _ _ _, (Below.refl _ _).alloc (Nat.le_refl _) _⟩
  case round =>
    obtain ⟨k, bo, cap, hk, rfl, rfl, hout, hbel⟩ := hrel
    by_cases hlt : k < n
    · have HS := Lib.hid (seqL_snoc first k)
      obtain ⟨hwk0, hwk1⟩ := HALL.out (k : Int) (by omega) (by omega)
      have HW : Hid (allIn (-1000000000) 1000000000 [first + (k : Int)] = true) := words1 hwk0 hwk1
      have hal : Below wr.heap.size wr (wr.alloc (.cells #[.int .i64 (first + (k : Int))] 3)) := (Below.refl _ _).alloc (Nat.le_refl _) _
      have hmx := mixL_bd [first + (k : Int)]
      go_wp2_with fail
      refine (digest_any _ _ _ _ _ (ints_lit wr [first + (k : Int)] (by simp)) (by simp) HW.out).mono ?_
      rintro e w2 ⟨rfl, hb2⟩
      have hbr := hal.trans (hb2.mono hal.size)
      have hout2 := hout.below hbr (Nat.le_refl _)
      have hbw := hbel.trans (hbr.mono hbel.size)
      go_wp2_with (at_builtin; refine wpList_append_i rfl _ _ rfl w.heap.size _ _ _ _ _ rfl rfl hout2 (by omega) hbw.size ?_; intro bo' cap'' w4 hown4 hg4)
      have hbel4 := below_append hbw hout2.2.2 hg4 hbw.size
      go_roundw
      case rel => exact ⟨k + 1, bo', cap'', by omega, by go_num, rfl, by rw [HS.out]; exact hown4, hbel4⟩
      case measure => simp [intOf] <;> omega
    · obtain rfl : k = n := by omega
      obtain ⟨g, rfl, hgB, hgl, hrow⟩ := hout.2.2.some (by omega)
      have hcap := hout.capLe
      have hsl := seqL_length first k
      obtain ⟨ys, hys⟩ : ∃ ys, ys = (seqL first k).mergeSort fun x y => decide (x ≤ y) := ⟨_, rfl⟩
      have hyl : ys.length = k := by rw [hys, List.length_mergeSort, hsl]
      have HPC : Hid ((Lib.compact ys).length = (putAll (seqL first k)).length) := by show _ = _; rw [hys]; exact compact_put _
      have hS := Try.slices_Sort_int g 0 cap (seqL first k) wr (sorted_after (q := 0) (os := #[]) hout (by omega) hyl).1 hgl (by rw [hsl]; omega)
      rw [hsl, ← hys] at hS
      have HS := Lib.hid hS
      have HYL := Lib.hid hyl
      clear hS hys hsl hrow hyl
      go_wp2_with fail
      refine HS.out.mono ?_
      rintro e w1 ⟨rfl, q, os, rfl⟩
      obtain ⟨_, _, hH, hg⟩ := sorted_after (q := q) (os := os) hout (by omega) HYL.out
      have hC := Try.slices_Compact_int g 0 cap ys _ hH (by rw [HYL.out]; omega) (by rw [HYL.out]; exact hcap)
      rw [HYL.out] at hC
      have HC := Lib.hid hC
      have hb1 := hbel.grown hg hbel.size (fun p hp => by simp at hp; omega)
      clear hC hH
      obtain ⟨W1, hW1⟩ : ∃ W1, W1 = Go.Sort.grow (Go.Sort.putRow (Value.int .i64) (Go.Sort.ahead wr q) g 0 ys.toArray) os := ⟨_, rfl⟩
      rw [← hW1] at HC hb1 ⊢
      clear hW1 hg
      go_wp2_with fail
      refine HC.out.mono ?_
      rintro e w2 ⟨rfl, q2, rfl⟩
      have hb2 : Below w.heap.size w (Go.Sort.putRow (Value.int .i64) (Go.Sort.ahead W1 q2) g 0 (Lib.compact ys ++ List.replicate (k - (Lib.compact ys).length) 0).toArray) := by
        refine hb1.grown (row := some g) ⟨rfl, rfl, rfl, by simp [Go.Sort.putRow, Go.Sort.mapBlock, Go.Sort.ahead], fun k hk hne => ?_⟩ hb1.size (fun p hp => by simp at hp; omega)
        have : g ≠ k := fun e => hne (by rw [e])
        simp [Go.Sort.putRow, Go.Sort.mapBlock, Go.Sort.ahead, Array.getElem?_modify, this]
      have HPC2 := HPC
      generalize (Go.Sort.putRow (Value.int .i64) (Go.Sort.ahead W1 q2) g 0 (Lib.compact ys ++ List.replicate (k - (Lib.compact ys).length) 0).toArray) = W2 at *
      go_wp2_with fail
      go_ret2
      exact ⟨by simp [HF.out, HPC2.out], hb2⟩
end Go.Proofs.Ytilkgidilhgjeaa
