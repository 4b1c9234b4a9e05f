/-
  Orders from words: the numbers below n, each exchanged with one that the digest picks.
-/
import Derived.Test.YtnpndpmelgfmbaaPoly
namespace Go.Proofs.Ytnpndpmelgfmbaa
open Go.RowKit

def swapL (l : List Int) (i k : Nat) : List Int := (l.set i (l.getD k 0)).set k (l.getD i 0)
theorem swapL_length (l : List Int) (i k : Nat) : (swapL l i k).length = l.length := by simp [swapL]
def pickK (xs : List Int) (i : Nat) : Nat := (mixL (xs ++ [(i : Int)] ++ [(i : Int) + 1]) % ((i : Int) + 1)).toNat
def ordLGo (xs : List Int) : Nat → List Int → List Int
  | 0, l => l
  | i + 1, l => ordLGo xs i (swapL l (i + 1) (pickK xs (i + 1)))
def upto (n : Nat) : List Int := (List.range n).map fun (i : Nat) => (i : Int)
theorem upto_snoc (n : Nat) : upto (n + 1) = upto n ++ [(n : Int)] := by simp [upto, List.range_succ]
theorem upto_length (n : Nat) : (upto n).length = n := by simp [upto]
def orderL (xs : List Int) (n : Nat) : List Int := ordLGo xs (n - 1) (upto n)
theorem pickK_le (xs : List Int) (i : Nat) : mixL (xs ++ [(i : Int)] ++ [(i : Int) + 1]) % ((i : Int) + 1) = (pickK xs i : Int) ∧ pickK xs i ≤ i := by
  unfold pickK
  have h0 : 0 ≤ mixL (xs ++ [(i : Int)] ++ [(i : Int) + 1]) % ((i : Int) + 1) := Int.emod_nonneg _ (by omega)
  have h1 : mixL (xs ++ [(i : Int)] ++ [(i : Int) + 1]) % ((i : Int) + 1) < (i : Int) + 1 := Int.emod_lt_of_pos _ (by omega)
  omega
theorem pick_at (xs : List Int) (j : Nat) : ∃ q : Nat, mixL (xs ++ [(j : Int) + 1] ++ [(j : Int) + 1 + 1]) % ((j : Int) + 1 + 1) = (q : Int) ∧ q ≤ j + 1 ∧ pickK xs (j + 1) = q := by
  have h := pickK_le xs (j + 1)
  exact ⟨_, by have h1 := h.1; simpa using h1, h.2, rfl⟩
theorem get_some {l : List Int} {n i : Nat} (hl : l.length = n) (hi : i < n) : ∃ x, l[i]? = some x := ⟨l[i], by rw [List.getElem?_eq_getElem (by omega)]⟩
theorem swap_at {l : List Int} {i k : Nat} {x y : Int} (hx : l[i]? = some x) (hy : l[k]? = some y) : swapL l i k = (l.set i y).set k x := by
  simp [swapL, List.getD, hx, hy]

theorem ord_step {xs : List Int} {j q : Nat} (h : pickK xs (j + 1) = q) (cur : List Int) : ordLGo xs (j : Int).toNat (swapL cur (j + 1) q) = ordLGo xs ((j + 1 : Nat) : Int).toNat cur := by
  subst h
  rw [Int.toNat_natCast, Int.toNat_natCast]; rfl
theorem dgOrder_any (w : World) (ao : Option Addr) (n c : Nat) (xs : List Int) (m : Nat) (ha : Ints w w.heap.size ao n xs) (hn : n ≤ 10) (hw : allIn (-1000000000) 1000000000 xs = true) (hm : m ≤ 40) :
    Calls Try.prog 138 #[.slice ao n c, .int .i64 m] w (RetI (orderL xs m) w) := by
  have HW := Lib.hid hw
  have hl := Lib.hid ha.1
  clear hw
  go_enter Try.func138, Try.ntmps138
  go_wp2_with fail
  go_loopw [5, 6] (fun out i wr => ∃ (k : Nat) (co : Option Addr) (cap : Nat), k ≤ m ∧ i = .int .i64 k ∧ out = .slice co k cap ∧ OwnI w.heap.size wr co k cap (upto k) ∧ Below w.heap.size w wr) (fun _ i _ => m - (intOf i).toNat)
  case atStart => exact ⟨0, _, 0, Nat.zero_le _, rfl, rfl, OwnI.nil _ _ _, Below.refl _ _⟩
  case round =>
    obtain ⟨k, co, cap, hk, rfl, rfl, hout, hbel⟩ := hrel
    by_cases hlt : k < m
    · have HS := Lib.hid (upto_snoc k)
      go_wp2_with (at_builtin; refine wpList_append_i rfl _ _ rfl w.heap.size _ _ _ _ _ rfl rfl hout (by omega) hbel.size ?_; intro bo' cap'' w4 hown4 hg4)
      have hbel4 := below_append hbel hout.2.2 hg4 hbel.size
      go_roundw
      case rel => exact ⟨k + 1, bo', cap'', by omega, by go_num, rfl, by rw [HS.out]; exact hown4, hbel4⟩
      case measure => simp [intOf] <;> omega
    · obtain rfl : k = m := by omega
      go_wp2_with fail
      obtain ⟨wo, rfl⟩ : ∃ wo : World, wo = wr := ⟨_, rfl⟩
      go_loopw [7] (fun i wr => ∃ (iv : Int) (cur : List Int), -1 ≤ iv ∧ iv < k ∧ i = .int .i64 iv ∧ Hid (ordLGo xs iv.toNat cur = orderL xs k) ∧ OwnI w.heap.size wr co k cap cur ∧ Below w.heap.size w wr) (fun i _ => (intOf i + 1).toNat)
      case atStart => exact ⟨_, upto k, by omega, by omega, rfl, by show ordLGo xs ((k : Int) - 1).toNat (upto k) = _; rw [show ((k : Int) - 1).toNat = k - 1 from by omega]; rfl, hout, hbel⟩
      case round =>
        obtain ⟨iv, cur, h1, h2, rfl, HO, hcur, hbelr⟩ := hrel
        by_cases hpos : 0 < iv
        · obtain ⟨j, rfl⟩ : ∃ j : Nat, iv = ((j + 1 : Nat) : Int) := ⟨(iv - 1).toNat, by omega⟩
          obtain ⟨q, hq1, hq2, hq3⟩ := pick_at xs j
          have HQ := Lib.hid hq1
          have HQ3 := Lib.hid hq3
          obtain ⟨g, rfl, _, _, _⟩ := hcur.2.2.some (by omega)
          have hlc := Lib.hid hcur.1
          have HK := Lib.hid (words_add HW.out (words1 (m := ((j + 1 : Nat) : Int)) (by omega) (by omega)))
          clear hq1 hq3
          go_wp2_with fail
          refine (dgWith_any _ _ _ _ _ _ ((ha.below hbelr (Nat.le_refl _)).up hbelr.size) (by omega)).mono ?_
          rintro e w1 ⟨a1, n1, c1, rfl, ho1, hb1⟩
          go_wp2_with fail
          refine (dgBelow_any _ _ _ _ _ _ ho1.ints (by have := ho1.1; simp [hl.out] at this; omega) HK.out (by omega) (by omega)).mono ?_
          rintro e w2 ⟨rfl, hb2⟩
          have hb12 := hb1.trans (hb2.mono hb1.size)
          have hcur2 := hcur.below hb12 (Nat.le_refl _)
          have hbel2 := hbelr.trans (hb12.mono hbelr.size)
          obtain ⟨x, hx⟩ := get_some (i := j + 1) hlc.out (by omega)
          obtain ⟨y, hy⟩ := get_some (i := q) hlc.out (by omega)
          have g1 := hcur2.cell hx
          have g2 := hcur2.cell hy
          obtain ⟨s1, s2, f1⟩ := hcur2.set (k := j + 1) (by omega) y
          obtain ⟨z, hz⟩ := get_some (i := q) s1.1 (by omega)
          have g3 := s1.cell hz
          obtain ⟨s3, s4, f2⟩ := s1.set (k := q) (by omega) x
          have hbel3 := below_set hbel2 hcur2 s2 hbel2.size
          have hbel4 := below_set hbel3 s1 s4 hbel3.size
          rw [← swap_at hx hy] at s3
          clear hx hy hz s2 s4
          rw [HQ.out]
          go_wp2_with fail
          go_roundw
          case rel => exact ⟨(j : Int), swapL cur (j + 1) q, by omega, by omega, rfl, (ord_step HQ3.out cur).trans HO.out, s3, hbel4⟩
          case measure => simp [intOf] <;> omega
        · go_wp2_with fail
          go_ret
          have hz : iv.toNat = 0 := by omega
          have ho := HO.out
          rw [hz] at ho
          exact ⟨_, _, _, rfl, by rw [← ho]; exact hcur, hbelr⟩
theorem orderFrom_any (w : World) (ao : Option Addr) (n c : Nat) (xs : List Int) (m : Nat) (ha : Ints w w.heap.size ao n xs) (hn : n ≤ 10) (hw : allIn (-1000000000) 1000000000 xs = true) (hm : m ≤ 40) :
    Calls Try.prog 137 #[.slice ao n c, .int .i64 m] w (RetI (orderL xs m) w) := by
  have HW := Lib.hid hw
  have hl := Lib.hid ha.1
  clear hw
  go_enter Try.func137, Try.ntmps137
  go_wp2_with fail
  go_loopw [5, 11] (fun out i wr => ∃ (k : Nat) (co : Option Addr) (cap : Nat), k ≤ m ∧ i = .int .i64 k ∧ out = .slice co k cap ∧ OwnI w.heap.size wr co k cap (upto k) ∧ Below w.heap.size w wr) (fun _ i _ => m - (intOf i).toNat)
  case atStart => exact ⟨0, _, 0, Nat.zero_le _, rfl, rfl, OwnI.nil _ _ _, (Below.refl _ _).alloc (Nat.le_refl _) _⟩
  case round =>
    obtain ⟨k, co, cap, hk, rfl, rfl, hout, hbel⟩ := hrel
    by_cases hlt : k < m
    · have HS := Lib.hid (upto_snoc k)
      go_wp2_with (at_builtin; refine wpList_append_i rfl _ _ rfl w.heap.size _ _ _ _ _ rfl rfl hout (by omega) hbel.size ?_; intro bo' cap'' w4 hown4 hg4)
      have hbel4 := below_append hbel hout.2.2 hg4 hbel.size
      go_roundw
      case rel => exact ⟨k + 1, bo', cap'', by omega, by go_num, rfl, by rw [HS.out]; exact hown4, hbel4⟩
      case measure => simp [intOf] <;> omega
    · obtain rfl : k = m := by omega
      go_wp2_with fail
      obtain ⟨wo, rfl⟩ : ∃ wo : World, wo = wr := ⟨_, rfl⟩
      go_loopw [7] (fun i wr => ∃ (iv : Int) (cur : List Int), -1 ≤ iv ∧ iv < k ∧ i = .int .i64 iv ∧ Hid (ordLGo xs iv.toNat cur = orderL xs k) ∧ OwnI w.heap.size wr co k cap cur ∧ Below w.heap.size w wr) (fun i _ => (intOf i + 1).toNat)
      case atStart => exact ⟨_, upto k, by omega, by omega, rfl, by show ordLGo xs ((k : Int) - 1).toNat (upto k) = _; rw [show ((k : Int) - 1).toNat = k - 1 from by omega]; rfl, hout, hbel⟩
      case round =>
        obtain ⟨iv, cur, h1, h2, rfl, HO, hcur, hbelr⟩ := hrel
        by_cases hpos : 0 < iv
        · obtain ⟨j, rfl⟩ : ∃ j : Nat, iv = ((j + 1 : Nat) : Int) := ⟨(iv - 1).toNat, by omega⟩
          obtain ⟨q, hq1, hq2, hq3⟩ := pick_at xs j
          have HQ := Lib.hid hq1
          have HQ3 := Lib.hid hq3
          obtain ⟨g, rfl, _, _, _⟩ := hcur.2.2.some (by omega)
          have hlc := Lib.hid hcur.1
          have HK := Lib.hid (words_add HW.out (words1 (m := ((j + 1 : Nat) : Int)) (by omega) (by omega)))
          clear hq1 hq3
          have hb0 : Below wr.heap.size wr (wr.alloc (.cells #[.int .i64 ((j : Int) + 1)] 3)) := (Below.refl _ _).alloc (Nat.le_refl _) _
          have hI0 := Lib.hid (ints_lit wr [(j : Int) + 1] (by simp))
          have hA0 := Lib.hid (((ha.below hbelr (Nat.le_refl _)).up hbelr.size).below hb0 (Nat.le_refl _))
          go_wp2_with fail
          refine (with_any _ _ _ _ _ _ _ _ _ _ _ hA0.out hI0.out hb0.size (Nat.le_refl _) (by omega) (by simp)).mono ?_
          rintro e w1 ⟨a1, n1, c1, rfl, ho1, hb1'⟩
          have hb1 := hb0.trans (hb1'.mono hb0.size)
          go_wp2_with fail
          refine (numberFrom_any _ _ _ _ _ _ ho1.ints (by have := ho1.1; simp [hl.out] at this; omega) HK.out (by omega) (by omega)).mono ?_
          rintro e w2 ⟨rfl, hb2⟩
          have hb12 := hb1.trans (hb2.mono hb1.size)
          have hcur2 := hcur.below hb12 (Nat.le_refl _)
          have hbel2 := hbelr.trans (hb12.mono hbelr.size)
          obtain ⟨x, hx⟩ := get_some (i := j + 1) hlc.out (by omega)
          obtain ⟨y, hy⟩ := get_some (i := q) hlc.out (by omega)
          have g1 := hcur2.cell hx
          have g2 := hcur2.cell hy
          obtain ⟨s1, s2, f1⟩ := hcur2.set (k := j + 1) (by omega) y
          obtain ⟨z, hz⟩ := get_some (i := q) s1.1 (by omega)
          have g3 := s1.cell hz
          obtain ⟨s3, s4, f2⟩ := s1.set (k := q) (by omega) x
          have hbel3 := below_set hbel2 hcur2 s2 hbel2.size
          have hbel4 := below_set hbel3 s1 s4 hbel3.size
          rw [← swap_at hx hy] at s3
          clear hz s2 s4
          rw [HQ.out]
          by_cases hqj : q = j + 1
          · subst hqj
            obtain rfl : x = y := by rw [hx] at hy; simpa using hy
            clear hx hy g2
            go_wp2_with fail
            go_region
            all_goals
              go_wp2_with fail
              go_roundw
              case rel => exact ⟨(j : Int), swapL cur (j + 1) (j + 1), by omega, by omega, rfl, (ord_step HQ3.out cur).trans HO.out, s3, hbel4.drew⟩
              case measure => simp [intOf] <;> omega
          · clear hx hy
            go_wp2_with fail
            go_region
            all_goals
              go_wp2_with fail
              go_roundw
              case rel => exact ⟨(j : Int), swapL cur (j + 1) q, by omega, by omega, rfl, (ord_step HQ3.out cur).trans HO.out, s3, hbel4.drew⟩
              case measure => simp [intOf] <;> omega
        · go_wp2_with fail
          go_ret
          have hz : iv.toNat = 0 := by omega
          have ho := HO.out
          rw [hz] at ho
          exact ⟨_, _, _, rfl, by rw [← ho]; exact hcur, hbelr⟩

def orderFromF (xs : List Int) (m : Int) : List Int × Bool := if (wordsB xs 10 && inB m 0 40) = true then (orderL xs m.toNat, true) else ([], false)
theorem spec_OrderFrom_any (w : World) (ao : Option Addr) (n c : Nat) (xs : List Int) (m : Int) (ha : Ints w w.heap.size ao n xs) :
    Calls Try.prog 59 #[.slice ao n c, .int .i64 m] w (RetIB (orderFromF xs m) w) := by
  have hl := Lib.hid ha.1
  cases hg : wordsB xs 10
  · go_enter Try.func59, Try.ntmps59
    go_wp2_with (go_at_call 135; refine (dgShort_any _ _ _ _ _ _ ha).mono ?_; rintro e w' ⟨rfl, rfl⟩)
    go_ret2
    exact ⟨none, 0, 0, by simp [orderFromF, hg], by simpa [orderFromF, hg] using OwnI.nil _ _ _, Below.refl _ _⟩
  cases hm : inB m 0 40
  · go_enter Try.func59, Try.ntmps59
    go_wp2_with (first | (go_at_call 135; refine (dgShort_any _ _ _ _ _ _ ha).mono ?_; rintro e w' ⟨rfl, rfl⟩) | (go_at_call 112; refine (l1In_any _ _ _ _).mono ?_; rintro e w' ⟨rfl, rfl⟩))
    go_ret2
    exact ⟨none, 0, 0, by simp [orderFromF, hm], by simpa [orderFromF, hm] using OwnI.nil _ _ _, Below.refl _ _⟩
  · have h2 := wordsB_iff.1 hg
    have h3 := inB_iff.1 hm
    obtain ⟨k, rfl⟩ := Int.eq_ofNat_of_zero_le h3.1
    rw [hl.out] at h2
    have H2 := Lib.hid h2
    clear h2
    go_enter Try.func59, Try.ntmps59
    go_wp2_with (first | (go_at_call 135; refine (dgShort_any _ _ _ _ _ _ ha).mono ?_; rintro e w' ⟨rfl, rfl⟩) | (go_at_call 112; refine (l1In_any _ _ _ _).mono ?_; rintro e w' ⟨rfl, rfl⟩) | (go_at_call 138; refine (dgOrder_any _ _ _ _ _ _ ha (by have := H2.out.1; omega) H2.out.2 (by omega)).mono ?_; rintro e w1 ⟨a1, n1, c1, rfl, ho1, hb1⟩))
    go_ret2
    exact ⟨a1, n1, c1, by simp [orderFromF, hg, hm], by simpa [orderFromF, hg, hm] using ho1, hb1⟩
theorem impl_OrderFrom_any (w : World) (ao : Option Addr) (n c : Nat) (xs : List Int) (m : Int) (ha : Ints w w.heap.size ao n xs) :
    Calls Try.prog 58 #[.slice ao n c, .int .i64 m] w (RetIB (orderFromF xs m) w) := by
  have hl := Lib.hid ha.1
  cases hg : wordsB xs 10
  · go_enter Try.func58, Try.ntmps58
    go_wp2_with (go_at_call 133; refine (areWords_any _ _ _ _ _ _ ha).mono ?_; rintro e w1 ⟨rfl, hb1⟩)
    go_ret2
    exact ⟨none, 0, 0, by simp [orderFromF, hg], by simpa [orderFromF, hg] using OwnI.nil _ _ _, hb1⟩
  cases hm : inB m 0 40
  · go_enter Try.func58, Try.ntmps58
    go_wp2_with (first | (go_at_call 133; refine (areWords_any _ _ _ _ _ _ ha).mono ?_; rintro e w1 ⟨rfl, hb1⟩) | (go_at_call 103; refine (within_any _ _ _ _).mono ?_; rintro e w' ⟨rfl, rfl⟩))
    go_ret2
    exact ⟨none, 0, 0, by simp [orderFromF, hm], by simpa [orderFromF, hm] using OwnI.nil _ _ _, hb1⟩
  · have h2 := wordsB_iff.1 hg
    have h3 := inB_iff.1 hm
    obtain ⟨k, rfl⟩ := Int.eq_ofNat_of_zero_le h3.1
    rw [hl.out] at h2
    have H2 := Lib.hid h2
    clear h2
    go_enter Try.func58, Try.ntmps58
    go_wp2_with (first | (go_at_call 133; refine (areWords_any _ _ _ _ _ _ ha).mono ?_; rintro e w1 ⟨rfl, hb1⟩; have ha' := (ha.below hb1 (Nat.le_refl _)).up hb1.size) | (go_at_call 103; refine (within_any _ _ _ _).mono ?_; rintro e w' ⟨rfl, rfl⟩) | (go_at_call 137; refine (orderFrom_any _ _ _ _ _ _ ha' (by have := H2.out.1; omega) H2.out.2 (by omega)).mono ?_; rintro e w2 ⟨a1, n1, c1, rfl, ho1, hb2⟩))
    go_ret2
    exact ⟨a1, n1, c1, by simp [orderFromF, hg, hm], by simpa [orderFromF, hg, hm] using ho1.up hb1.size, hb1.trans (hb2.mono hb1.size)⟩
end Go.Proofs.Ytnpndpmelgfmbaa
