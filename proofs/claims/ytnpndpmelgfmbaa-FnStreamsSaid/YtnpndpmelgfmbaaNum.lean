/-
  Chapter 3, second part: numbers, bits and orders from words.
-/
import Derived.Test.YtnpndpmelgfmbaaDigest
import Derived.RegionTactic
import Derived.BigRegion
namespace Go.Proofs.Ytnpndpmelgfmbaa
open Go.RowKit

def wordsI (xs : List Int) : Prop := allIn (-1000000000) 1000000000 xs = true
theorem words1 {m : Int} (h0 : -1000000000 ≤ m) (h1 : m ≤ 1000000000) : allIn (-1000000000) 1000000000 [m] = true := by simp [allIn, inB_iff]; omega
theorem words2 {m k : Int} (h0 : -1000000000 ≤ m ∧ m ≤ 1000000000) (h1 : -1000000000 ≤ k ∧ k ≤ 1000000000) : allIn (-1000000000) 1000000000 [m, k] = true := by simp [allIn, inB_iff]; omega

theorem dgWith_any (w : World) (ao : Option Addr) (n c : Nat) (xs : List Int) (m : Int) (ha : Ints w w.heap.size ao n xs) (hn : n ≤ 2000000) :
    Calls Try.prog 175 #[.slice ao n c, .int .i64 m] w (RetI (xs ++ [m]) w) := by
  go_enter Try.func175, Try.ntmps175
  go_wp2_with fail
  refine (l1Own_any _ _ _ _ _ _ ha (Nat.le_refl _) hn).mono ?_
  rintro e w1 ⟨a1, n1, c1, rfl, ho1, hb1⟩
  have hn1 : n1 = n := ho1.1.symm.trans ha.1
  have hn1' : n1 ≤ 2000000 := by omega
  clear hn1
  go_wp2_with (at_builtin; refine wpList_append_i rfl _ _ rfl w.heap.size _ _ _ _ _ rfl rfl ho1 (by omega) hb1.size ?_; intro ao' cap' w2 hown2 hg2)
  go_ret
  exact ⟨_, _, _, rfl, hown2, below_append hb1 ho1.2.2 hg2 hb1.size⟩
theorem dgBelow_any (w : World) (ao : Option Addr) (n c : Nat) (xs : List Int) (m : Int) (ha : Ints w w.heap.size ao n xs) (hn : n ≤ 11) (hw : allIn (-1000000000) 1000000000 xs = true) (hm : 1 ≤ m) (hm2 : m ≤ 10000) :
    Calls Try.prog 140 #[.slice ao n c, .int .i64 m] w (RetN (mixL (xs ++ [m]) % m) w) := by
  have HW := Lib.hid (words_add hw (words1 (m := m) (by omega) (by omega)))
  have hl := Lib.hid ha.1
  clear hw
  have hmx := mixL_bd (xs ++ [m])
  go_enter Try.func140, Try.ntmps140
  go_wp2_with fail
  refine (dgWith_any _ _ _ _ _ _ ha (by omega)).mono ?_
  rintro e w1 ⟨a1, n1, c1, rfl, ho1, hb1⟩
  go_wp2_with fail
  refine (dgMix_any _ _ _ _ _ ho1.ints (by have := ho1.1; simp [hl.out] at this; omega) HW.out).mono ?_
  rintro e w2 ⟨rfl, hb2⟩
  go_wp2_with fail
  go_ret
  exact ⟨rfl, hb1.trans (hb2.mono hb1.size)⟩
theorem numberFrom_any (w : World) (ao : Option Addr) (n c : Nat) (xs : List Int) (m : Int) (ha : Ints w w.heap.size ao n xs) (hn : n ≤ 11) (hw : allIn (-1000000000) 1000000000 xs = true) (hm : 1 ≤ m) (hm2 : m ≤ 10000) :
    Calls Try.prog 139 #[.slice ao n c, .int .i64 m] w (RetN (mixL (xs ++ [m]) % m) w) := by
  have HW := Lib.hid (words_add hw (words1 (m := m) (by omega) (by omega)))
  have hl := Lib.hid ha.1
  clear hw
  have hmx := mixL_bd (xs ++ [m])
  have hb0 : Below w.heap.size w (w.alloc (.cells #[.int .i64 m] 3)) := (Below.refl _ _).alloc (Nat.le_refl _) _
  have hI0 := Lib.hid (ints_lit w [m] (by simp))
  have hA0 := Lib.hid ((ha.below hb0 (Nat.le_refl _)).up hb0.size)
  go_enter Try.func139, Try.ntmps139
  go_wp2_with fail
  refine (with_any _ _ _ _ _ _ _ _ _ _ _ hA0.out hI0.out (Nat.le_refl _) (Nat.le_refl _) (by omega) (by simp)).mono ?_
  rintro e w1 ⟨a1, n1, c1, rfl, ho1, hb1⟩
  have hbb1 := hb0.trans (hb1.mono hb0.size)
  go_wp2_with fail
  refine (digest_any _ _ _ _ _ ho1.ints (by have := ho1.1; simp [hl.out] at this; omega) HW.out).mono ?_
  rintro e w2 ⟨rfl, hb2⟩
  go_wp2_with fail
  go_ret
  exact ⟨rfl, hbb1.trans (hb2.mono hbb1.size)⟩
def numberFromF (xs : List Int) (m : Int) : Int × Bool := if (wordsB xs 10 && inB m 1 10000) = true then (mixL (xs ++ [m]) % m, true) else (0, false)
theorem spec_NumberFrom_any (w : World) (ao : Option Addr) (n c : Nat) (xs : List Int) (m : Int) (ha : Ints w w.heap.size ao n xs) :
    Calls Try.prog 63 #[.slice ao n c, .int .i64 m] w (RetNB (numberFromF xs m) w) := by
  have hl := Lib.hid ha.1
  cases hg : wordsB xs 10
  · go_enter Try.func63, Try.ntmps63
    go_wp2_with (go_at_call 135; refine (dgShort_any _ _ _ _ _ _ ha).mono ?_; rintro e w' ⟨rfl, rfl⟩)
    go_ret2
    exact ⟨by simp [numberFromF, hg], Below.refl _ _⟩
  cases hm : inB m 1 10000
  · go_enter Try.func63, Try.ntmps63
    go_wp2_with (first | (go_at_call 135; refine (dgShort_any _ _ _ _ _ _ ha).mono ?_; rintro e w' ⟨rfl, rfl⟩) | (go_at_call 112; refine (l1In_any _ _ _ _).mono ?_; rintro e w' ⟨rfl, rfl⟩))
    go_ret2
    exact ⟨by simp [numberFromF, hm], Below.refl _ _⟩
  · have h2 := wordsB_iff.1 hg
    have h3 := inB_iff.1 hm
    rw [hl.out] at h2
    have H2 := Lib.hid h2
    clear h2
    go_enter Try.func63, Try.ntmps63
    go_wp2_with (first | (go_at_call 135; refine (dgShort_any _ _ _ _ _ _ ha).mono ?_; rintro e w' ⟨rfl, rfl⟩) | (go_at_call 112; refine (l1In_any _ _ _ _).mono ?_; rintro e w' ⟨rfl, rfl⟩) | (go_at_call 140; refine (dgBelow_any _ _ _ _ _ _ ha (by have := H2.out.1; omega) H2.out.2 h3.1 h3.2).mono ?_; rintro e w1 ⟨rfl, hb1⟩))
    go_ret2
    exact ⟨by simp [numberFromF, hg, hm], hb1⟩
theorem impl_NumberFrom_any (w : World) (ao : Option Addr) (n c : Nat) (xs : List Int) (m : Int) (ha : Ints w w.heap.size ao n xs) :
    Calls Try.prog 62 #[.slice ao n c, .int .i64 m] w (RetNB (numberFromF xs m) w) := by
  have hl := Lib.hid ha.1
  cases hg : wordsB xs 10
  · go_enter Try.func62, Try.ntmps62
    go_wp2_with (go_at_call 133; refine (areWords_any _ _ _ _ _ _ ha).mono ?_; rintro e w1 ⟨rfl, hb1⟩)
    go_ret2
    exact ⟨by simp [numberFromF, hg], hb1⟩
  cases hm : inB m 1 10000
  · go_enter Try.func62, Try.ntmps62
    go_wp2_with (first | (go_at_call 133; refine (areWords_any _ _ _ _ _ _ ha).mono ?_; rintro e w1 ⟨rfl, hb1⟩) | (go_at_call 103; refine (within_any _ _ _ _).mono ?_; rintro e w' ⟨rfl, rfl⟩))
    go_ret2
    exact ⟨by simp [numberFromF, hm], hb1⟩
  · have h2 := wordsB_iff.1 hg
    have h3 := inB_iff.1 hm
    rw [hl.out] at h2
    have H2 := Lib.hid h2
    clear h2
    go_enter Try.func62, Try.ntmps62
    go_wp2_with (first | (go_at_call 133; refine (areWords_any _ _ _ _ _ _ ha).mono ?_; rintro e w1 ⟨rfl, hb1⟩; have ha' := (ha.below hb1 (Nat.le_refl _)).up hb1.size) | (go_at_call 103; refine (within_any _ _ _ _).mono ?_; rintro e w' ⟨rfl, rfl⟩) | (go_at_call 139; refine (numberFrom_any _ _ _ _ _ _ ha' (by have := H2.out.1; omega) H2.out.2 h3.1 h3.2).mono ?_; rintro e w2 ⟨rfl, hb2⟩))
    go_ret2
    exact ⟨by simp [numberFromF, hg, hm], hb1.trans (hb2.mono hb1.size)⟩

/-! ### Bits -/
def bitsL (xs : List Int) (n : Nat) : List Int := (List.range n).map fun (i : Nat) => mixL (xs ++ [(i : Int), 2]) / 8 % 2
theorem bitsL_snoc (xs : List Int) (n : Nat) : bitsL xs (n + 1) = bitsL xs n ++ [mixL (xs ++ [(n : Int), 2]) / 8 % 2] := by simp [bitsL, List.range_succ]
theorem bitsL_length (xs : List Int) (n : Nat) : (bitsL xs n).length = n := by simp [bitsL]
theorem bitsL_bits (xs : List Int) (n : Nat) : allIn 0 1 (bitsL xs n) = true := by
  rw [allIn_iff]
  intro x hx
  simp only [bitsL, List.mem_map] at hx
  obtain ⟨i, _, rfl⟩ := hx
  omega
theorem dgBits_any (w : World) (ao : Option Addr) (n c : Nat) (xs : List Int) (m : Nat) (ha : Ints w w.heap.size ao n xs) (hn : n ≤ 10) (hw : allIn (-1000000000) 1000000000 xs = true) (hm : m ≤ 64) :
    Calls Try.prog 136 #[.slice ao n c, .int .i64 m] w (RetI (bitsL xs m) w) := by
  have HW := Lib.hid hw
  have hl := Lib.hid ha.1
  clear hw
  go_enter Try.func136, Try.ntmps136
  go_wp2_with fail
  go_loopw [5, 6] (fun out i wr => ∃ (k : Nat) (bo : Option Addr) (cap : Nat), k ≤ m ∧ i = .int .i64 k ∧ out = .slice bo k cap ∧ OwnI w.heap.size wr bo k cap (bitsL xs k) ∧ Below w.heap.size w wr) (fun _ i _ => m - (intOf i).toNat)
  case atStart => exact ⟨0, _, 0, Nat.zero_le _, rfl, rfl, OwnI.nil _ _ _, Below.refl _ _⟩
  case round =>
    obtain ⟨k, bo, cap, hk, rfl, rfl, hout, hbel⟩ := hrel
    by_cases hlt : k < m
    · have HS := Lib.hid (bitsL_snoc xs k)
      have HK := Lib.hid (words_add HW.out (words2 (m := (k : Int)) (k := 2) (by omega) (by omega)))
      have hmx := mixL_bd (xs ++ [(k : Int), 2])
      go_wp2_with fail
      refine (l1Own_any _ _ _ _ _ _ (ha.below hbel (Nat.le_refl _)) hbel.size (by omega)).mono ?_
      rintro e w1 ⟨a1, n1, c1, rfl, ho1, hb1⟩
      have hn1 : n1 ≤ 10 := by have := ho1.1; rw [hl.out] at this; omega
      go_wp2_with (at_builtin; refine wpList_append_ii rfl _ _ rfl wr.heap.size _ _ _ _ _ _ rfl rfl ho1 (by omega) hb1.size ?_; intro ao' cap' w2 hown2 hg2)
      have hb2 := below_append hb1 ho1.2.2 hg2 hb1.size
      refine (dgMix_any _ _ _ _ _ hown2.ints (by omega) HK.out).mono ?_
      rintro e w3 ⟨rfl, hb3⟩
      have hb13 := hb2.trans (hb3.mono hb2.size)
      have hout3 := hout.below hb13 (Nat.le_refl _)
      have hbel3 := hbel.trans (hb13.mono hbel.size)
      go_wp2_with (at_builtin; refine wpList_append_i rfl _ _ rfl w.heap.size _ _ _ _ _ rfl rfl hout3 (by omega) hbel3.size ?_; intro bo' cap'' w4 hown4 hg4)
      have hbel4 := below_append hbel3 hout3.2.2 hg4 hbel3.size
      go_roundw
      case rel => exact ⟨k + 1, bo', cap'', by omega, by go_num, rfl, by rw [HS.out]; exact hown4, hbel4⟩
      case measure => simp [intOf] <;> omega
    · obtain rfl : k = m := by omega
      go_wp2_with fail
      go_ret
      exact ⟨_, _, _, rfl, hout, hbel⟩
theorem bitsFrom_any (w : World) (ao : Option Addr) (n c : Nat) (xs : List Int) (m : Nat) (ha : Ints w w.heap.size ao n xs) (hn : n ≤ 10) (hw : allIn (-1000000000) 1000000000 xs = true) (hm : m ≤ 64) :
    Calls Try.prog 134 #[.slice ao n c, .int .i64 m] w (RetI (bitsL xs m) w) := by
  have HW := Lib.hid hw
  have hl := Lib.hid ha.1
  clear hw
  go_enter Try.func134, Try.ntmps134
  go_wp2_with fail
  go_loopw [5, 9] (fun out i wr => ∃ (k : Nat) (bo : Option Addr) (cap : Nat), k ≤ m ∧ i = .int .i64 k ∧ out = .slice bo k cap ∧ OwnI w.heap.size wr bo k cap (bitsL xs k) ∧ Below w.heap.size w wr) (fun _ i _ => m - (intOf i).toNat)
  case atStart => exact ⟨0, _, 0, Nat.zero_le _, rfl, rfl, OwnI.nil _ _ _, (Below.refl _ _).alloc (Nat.le_refl _) _⟩
  case round =>
    obtain ⟨k, bo, cap, hk, rfl, rfl, hout, hbel⟩ := hrel
    by_cases hlt : k < m
    · have HS := Lib.hid (bitsL_snoc xs k)
      have HK := Lib.hid (words_add HW.out (words2 (m := (k : Int)) (k := 2) (by omega) (by omega)))
      have hmx := mixL_bd (xs ++ [(k : Int), 2])
      have hb0 : Below wr.heap.size wr (wr.alloc (.cells #[.int .i64 (k : Int), .int .i64 2] 3)) := (Below.refl _ _).alloc (Nat.le_refl _) _
      have hI0 := Lib.hid (ints_lit wr [(k : Int), 2] (by simp))
      have hA0 := Lib.hid (((ha.below hbel (Nat.le_refl _)).up hbel.size).below hb0 (Nat.le_refl _))
      go_wp2_with fail
      refine (with_any _ _ _ _ _ _ _ _ _ _ _ hA0.out hI0.out hb0.size (Nat.le_refl _) (by omega) (by simp)).mono ?_
      rintro e w1 ⟨a1, n1, c1, rfl, ho1, hb1⟩
      have hn1 : n1 ≤ 12 := by have := ho1.1; simp [hl.out] at this; omega
      go_wp2_with fail
      refine (digest_any _ _ _ _ _ ho1.ints (by omega) HK.out).mono ?_
      rintro e w3 ⟨rfl, hb3⟩
      have hb13 := (hb0.trans (hb1.mono hb0.size)).trans (hb3.mono (hb0.trans (hb1.mono hb0.size)).size)
      have hout3 := hout.below hb13 (Nat.le_refl _)
      have hbel3 := hbel.trans (hb13.mono hbel.size)
      go_wp2_with (at_builtin; refine wpList_append_i rfl _ _ rfl w.heap.size _ _ _ _ _ rfl rfl hout3 (by omega) hbel3.size ?_; intro bo' cap'' w4 hown4 hg4)
      have hbel4 := below_append hbel3 hout3.2.2 hg4 hbel3.size
      go_roundw
      case rel => exact ⟨k + 1, bo', cap'', by omega, by go_num, rfl, by rw [HS.out]; exact hown4, hbel4⟩
      case measure => simp [intOf] <;> omega
    · obtain rfl : k = m := by omega
      go_wp2_with fail
      go_ret
      exact ⟨_, _, _, rfl, hout, hbel⟩
def bitsFromF (xs : List Int) (m : Int) : List Int × Bool := if (wordsB xs 10 && inB m 0 64) = true then (bitsL xs m.toNat, true) else ([], false)
theorem spec_BitsFrom_any (w : World) (ao : Option Addr) (n c : Nat) (xs : List Int) (m : Int) (ha : Ints w w.heap.size ao n xs) :
    Calls Try.prog 66 #[.slice ao n c, .int .i64 m] w (RetIB (bitsFromF xs m) w) := by
  have hl := Lib.hid ha.1
  cases hg : wordsB xs 10
  · go_enter Try.func66, Try.ntmps66
    go_wp2_with (go_at_call 135; refine (dgShort_any _ _ _ _ _ _ ha).mono ?_; rintro e w' ⟨rfl, rfl⟩)
    go_ret2
    exact ⟨none, 0, 0, by simp [bitsFromF, hg], by simpa [bitsFromF, hg] using OwnI.nil _ _ _, Below.refl _ _⟩
  cases hm : inB m 0 64
  · go_enter Try.func66, Try.ntmps66
    go_wp2_with (first | (go_at_call 135; refine (dgShort_any _ _ _ _ _ _ ha).mono ?_; rintro e w' ⟨rfl, rfl⟩) | (go_at_call 112; refine (l1In_any _ _ _ _).mono ?_; rintro e w' ⟨rfl, rfl⟩))
    go_ret2
    exact ⟨none, 0, 0, by simp [bitsFromF, hm], by simpa [bitsFromF, hm] using OwnI.nil _ _ _, Below.refl _ _⟩
  · have h2 := wordsB_iff.1 hg
    have h3 := inB_iff.1 hm
    obtain ⟨k, rfl⟩ := Int.eq_ofNat_of_zero_le h3.1
    rw [hl.out] at h2
    have H2 := Lib.hid h2
    clear h2
    go_enter Try.func66, Try.ntmps66
    go_wp2_with (first | (go_at_call 135; refine (dgShort_any _ _ _ _ _ _ ha).mono ?_; rintro e w' ⟨rfl, rfl⟩) | (go_at_call 112; refine (l1In_any _ _ _ _).mono ?_; rintro e w' ⟨rfl, rfl⟩) | (go_at_call 136; refine (dgBits_any _ _ _ _ _ _ ha (by have := H2.out.1; omega) H2.out.2 (by omega)).mono ?_; rintro e w1 ⟨a1, n1, c1, rfl, ho1, hb1⟩))
    go_ret2
    exact ⟨a1, n1, c1, by simp [bitsFromF, hg, hm], by simpa [bitsFromF, hg, hm] using ho1, hb1⟩
theorem impl_BitsFrom_any (w : World) (ao : Option Addr) (n c : Nat) (xs : List Int) (m : Int) (ha : Ints w w.heap.size ao n xs) :
    Calls Try.prog 65 #[.slice ao n c, .int .i64 m] w (RetIB (bitsFromF xs m) w) := by
  have hl := Lib.hid ha.1
  cases hg : wordsB xs 10
  · go_enter Try.func65, Try.ntmps65
    go_wp2_with (go_at_call 133; refine (areWords_any _ _ _ _ _ _ ha).mono ?_; rintro e w1 ⟨rfl, hb1⟩)
    go_ret2
    exact ⟨none, 0, 0, by simp [bitsFromF, hg], by simpa [bitsFromF, hg] using OwnI.nil _ _ _, hb1⟩
  cases hm : inB m 0 64
  · go_enter Try.func65, Try.ntmps65
    go_wp2_with (first | (go_at_call 133; refine (areWords_any _ _ _ _ _ _ ha).mono ?_; rintro e w1 ⟨rfl, hb1⟩) | (go_at_call 103; refine (within_any _ _ _ _).mono ?_; rintro e w' ⟨rfl, rfl⟩))
    go_ret2
    exact ⟨none, 0, 0, by simp [bitsFromF, hm], by simpa [bitsFromF, hm] using OwnI.nil _ _ _, hb1⟩
  · have h2 := wordsB_iff.1 hg
    have h3 := inB_iff.1 hm
    obtain ⟨k, rfl⟩ := Int.eq_ofNat_of_zero_le h3.1
    rw [hl.out] at h2
    have H2 := Lib.hid h2
    clear h2
    go_enter Try.func65, Try.ntmps65
    go_wp2_with (first | (go_at_call 133; refine (areWords_any _ _ _ _ _ _ ha).mono ?_; rintro e w1 ⟨rfl, hb1⟩; have ha' := (ha.below hb1 (Nat.le_refl _)).up hb1.size) | (go_at_call 103; refine (within_any _ _ _ _).mono ?_; rintro e w' ⟨rfl, rfl⟩) | (go_at_call 134; refine (bitsFrom_any _ _ _ _ _ _ ha' (by have := H2.out.1; omega) H2.out.2 (by omega)).mono ?_; rintro e w2 ⟨a1, n1, c1, rfl, ho1, hb2⟩))
    go_ret2
    exact ⟨a1, n1, c1, by simp [bitsFromF, hg, hm], by simpa [bitsFromF, hg, hm] using ho1.up hb1.size, hb1.trans (hb2.mono hb1.size)⟩
end Go.Proofs.Ytnpndpmelgfmbaa
