/-
  Networks: the answers of SortWith, SortsAll, FirstUnsorted, NeedlessSteps and PruneNetwork.
-/
import Derived.Test.YtoeobhjpiimomaaNet7
namespace Go.Proofs.Ytoeobhjpiimomaa
open Go.RowKit

theorem isNet_facts {n : Int} {xs : List Int} {len : Nat} (hl : xs.length = len * 2) (h : isNetF n xs = true) : 1 ≤ n ∧ n ≤ 12 ∧ len ≤ 60 ∧ (steps xs).any (bad n) = false := by
  simp only [isNetF, Bool.and_eq_true, Bool.not_eq_true', decide_eq_true_eq] at h
  obtain ⟨h1, h2, h3⟩ := h
  have := inB_iff.1 h1
  exact ⟨this.1, this.2, by omega, h3⟩
/-! ### SortWith -/
def sortWithF (n : Int) (xs x : List Int) : List Int × Bool := if (isNetF n xs && (decide ((x.length : Int) = n) && allIn (-1000000) 1000000 x)) = true then ((steps xs).foldl exch x, true) else ([], false)
theorem spec_SortWith_any (w : World) (n : Int) (ao bo : Option Addr) (len m c d : Nat) (xs x : List Int) (ha : Flat 2 w w.heap.size ao len xs) (hb : Ints w w.heap.size bo m x) :
    Calls Try.prog 26 #[.int .i64 n, .slice ao len c, .slice bo m d] w (RetIB (sortWithF n xs x) w) := by
  have hlx := Lib.hid hb.1
  have hlen := Lib.hid ha.1
  cases hnet : isNetF n xs
  · go_enter Try.func26, Try.ntmps26
    go_wp2_with (go_at_call 49; refine (soGood_any _ _ _ _ _ _ ha).mono ?_; rintro e w1 ⟨rfl, hb1⟩; rw [hnet])
    go_ret2
    exact ⟨none, 0, 0, by simp [sortWithF, hnet], by simpa [sortWithF, hnet] using OwnI.nil _ _ _, hb1⟩
  · by_cases hmn : (m : Int) = n
    · cases hw : allIn (-1000000) 1000000 x
      · have hmn' : ((m : Int) != n) = false := by simp [hmn]
        go_enter Try.func26, Try.ntmps26
        go_wp2_with (first | (go_at_call 49; refine (soGood_any _ _ _ _ _ _ ha).mono ?_; rintro e w1 ⟨rfl, hb1⟩; rw [hnet]; have hbB := (hb.below hb1 (Nat.le_refl _))) | (go_at_call 59; refine (l1All_any _ _ _ _ _ _ _ _ hbB).mono ?_; rintro e w' ⟨rfl, rfl⟩; rw [hw]))
        go_ret2
        exact ⟨none, 0, 0, by simp [sortWithF, hw], by simpa [sortWithF, hw] using OwnI.nil _ _ _, hb1⟩
      · subst hmn
        obtain ⟨f1, f2, f3, f4⟩ := isNet_facts hlen.out hnet
        have HF := Lib.hid f4
        have HN := Lib.hid hnet
        have HW := Lib.hid hw
        clear f4
        go_enter Try.func26, Try.ntmps26
        go_wp2_with (first | (go_at_call 49; refine (soGood_any _ _ _ _ _ _ ha).mono ?_; rintro e w1 ⟨rfl, hb1⟩; rw [hnet]; have hbB := (hb.below hb1 (Nat.le_refl _)).up hb1.size; have haB := (ha.below hb1 (Nat.le_refl _)).up hb1.size) | (go_at_call 59; refine (l1All_any _ _ _ _ _ _ _ _ hbB).mono ?_; rintro e w' ⟨rfl, rfl⟩; rw [hw]) | (go_at_call 60; refine (soWith_any _ _ _ _ _ _ _ _ _ haB hbB (by omega) HF.out).mono ?_; rintro e w2 ⟨a1, n1, c1, b1, m1, d1, rfl, ho1, ho2, hb2⟩))
        go_ret2
        have e : sortWithF (m : Int) xs x = ((steps xs).foldl exch x, true) := by unfold sortWithF; rw [if_pos]; simp [HN.out, HW.out, hlx.out]
        exact ⟨_, _, _, by rw [e]; rfl, by rw [e]; exact ho1.up hb1.size, hb1.trans (hb2.mono hb1.size)⟩
    · have hmn' : ((m : Int) != n) = true := by simp [hmn]
      go_enter Try.func26, Try.ntmps26
      go_wp2_with (go_at_call 49; refine (soGood_any _ _ _ _ _ _ ha).mono ?_; rintro e w1 ⟨rfl, hb1⟩; rw [hnet])
      go_ret2
      have hx : ¬ (x.length : Int) = n := by rw [hlx.out]; exact hmn
      exact ⟨none, 0, 0, by simp [sortWithF, hx], by simpa [sortWithF, hx] using OwnI.nil _ _ _, hb1⟩
theorem sortWith1_any (v : Int) (w : World) : Calls Try.prog 62 #[.int .i64 v] w fun e w' => e = .returned (.bool (inB v (-1000000) 1000000)) ∧ w = w' := by
  go_enter Try.func62, Try.ntmps62
  go_wp2_with (go_at_call 51; refine (within_any _ _ _ _).mono ?_; rintro e w' ⟨rfl, rfl⟩)
  go_ret
  exact ⟨rfl, rfl⟩
theorem pred_sortWith1 (w : World) (xs : List Int) : Pred 62 #[] w (fun x => inB x (-1000000) 1000000) xs :=
  ⟨fun args W => by kernel_rfl, fun x _ W _ => (sortWith1_any x W).mono fun e W' ⟨he, hw⟩ => ⟨he, hw ▸ Below.refl _ _⟩⟩
theorem impl_SortWith_any (w : World) (n : Int) (ao bo : Option Addr) (len m c d : Nat) (xs x : List Int) (ha : Flat 2 w w.heap.size ao len xs) (hb : Ints w w.heap.size bo m x) :
    Calls Try.prog 28 #[.int .i64 n, .slice ao len c, .slice bo m d] w (RetIB (sortWithF n xs x) w) := by
  have hlx := Lib.hid hb.1
  have hlen := Lib.hid ha.1
  cases hnet : isNetF n xs
  · go_enter Try.func28, Try.ntmps28
    go_wp2_with (go_at_call 16; refine (impl_IsNetwork_any _ _ _ _ _ _ ha).mono ?_; rintro e w1 ⟨rfl, hb1⟩; rw [hnet])
    go_ret2
    exact ⟨none, 0, 0, by simp [sortWithF, hnet], by simpa [sortWithF, hnet] using OwnI.nil _ _ _, hb1⟩
  · by_cases hmn : (m : Int) = n
    · cases hw : allIn (-1000000) 1000000 x
      · have hmn' : ((m : Int) != n) = false := by simp [hmn]
        go_enter Try.func28, Try.ntmps28
        go_wp2_with (first | (go_at_call 16; refine (impl_IsNetwork_any _ _ _ _ _ _ ha).mono ?_; rintro e w1 ⟨rfl, hb1⟩; rw [hnet]; have hbB := (hb.below hb1 (Nat.le_refl _)).up hb1.size) | (go_at_call 61; refine (areAll_any _ _ _ _ _ _ _ _ hbB (pred_sortWith1 _ _)).mono ?_; rintro e w2 ⟨rfl, hb2⟩; rw [show (x.all fun x => inB x (-1000000) 1000000) = false from hw]))
        go_ret2
        exact ⟨none, 0, 0, by simp [sortWithF, hw], by simpa [sortWithF, hw] using OwnI.nil _ _ _, hb1.trans (hb2.mono hb1.size)⟩
      · subst hmn
        obtain ⟨f1, f2, f3, f4⟩ := isNet_facts hlen.out hnet
        have HF := Lib.hid f4
        have HN := Lib.hid hnet
        have HW := Lib.hid hw
        clear f4
        obtain ⟨i0, hi, hz0, hz1, hz2⟩ := info_parts bool_info
        go_enter Try.func28, Try.ntmps28
        go_wp2_with (first | (go_at_call 16; refine (impl_IsNetwork_any _ _ _ _ _ _ ha).mono ?_; rintro e w1 ⟨rfl, hb1⟩; rw [hnet]; have hbB := (hb.below hb1 (Nat.le_refl _)).up hb1.size; have haB := (ha.below hb1 (Nat.le_refl _)).up hb1.size) | (go_at_call 61; refine (areAll_any _ _ _ _ _ _ _ _ hbB (pred_sortWith1 _ _)).mono ?_; rintro e w2 ⟨rfl, hb2⟩; rw [show (x.all fun x => inB x (-1000000) 1000000) = true from hw]; have hbC := (hbB.below hb2 (Nat.le_refl _)).up hb2.size; have haC := (haB.below hb2 (Nat.le_refl _)).up hb2.size) | (at_make; refine wpList_make_full _ rfl _ _ 66 rfl w2.heap.size 4 i0 (.bool false) 1 Try.underlying66 hi hz0 hz1 _ _ _ _ len rfl rfl rfl rfl (by rw [hz2]; omega) (by unfold maxLen; omega) (Nat.le_refl _) ?_; intro w3 hown3 hg3))
        rw [show (Value.bool false).cells = #[.bool false] from rfl, toList_madeCells_one, Nat.mul_one] at hown3
        have hsl := steps_length len xs hlen.out
        have hm3 : OwnB w2.heap.size w3 (some ⟨w2.heap.size, 0, none⟩) len len (List.replicate len false) := ⟨by simp, by omega, .inr ⟨_, rfl, by simpa using hown3⟩⟩
        have hb3 : Below w2.heap.size w2 w3 := (Below.refl _ _).grown hg3 (Nat.le_refl _) (by simp)
        refine (sortWith_any _ _ _ _ _ _ _ _ _ _ _ _ _ (haC.below hb3 (Nat.le_refl _)) ((hbC.below hb3 (Nat.le_refl _)).up hb3.size) hm3 hb3.size (by omega) HF.out).mono ?_
        rintro e w4 ⟨a1, n1, c1, rfl, ho1, _, hg4⟩
        have hb4 := below_row hm3 hg4 hb3.size
        go_wp2_with fail
        go_ret2
        have e : sortWithF (m : Int) xs x = ((steps xs).foldl exch x, true) := by unfold sortWithF; rw [if_pos]; simp [HN.out, HW.out, hlx.out]
        have hS := Nat.le_trans hb1.size (Nat.le_trans hb2.size hb3.size)
        exact ⟨_, _, _, by rw [e]; rfl, by rw [e]; exact ho1.up hS, hb1.trans ((hb2.trans ((hb3.trans hb4).mono hb2.size)).mono hb1.size)⟩
    · have hmn' : ((m : Int) != n) = true := by simp [hmn]
      go_enter Try.func28, Try.ntmps28
      go_wp2_with (go_at_call 16; refine (impl_IsNetwork_any _ _ _ _ _ _ ha).mono ?_; rintro e w1 ⟨rfl, hb1⟩; rw [hnet])
      go_ret2
      have hx : ¬ (x.length : Int) = n := by rw [hlx.out]; exact hmn
      exact ⟨none, 0, 0, by simp [sortWithF, hx], by simpa [sortWithF, hx] using OwnI.nil _ _ _, hb1⟩

/-! ### SortsAll, FirstUnsorted -/
/-- Two bools back. -/
def RetBB (r : Bool × Bool) (w : World) (e : Ending) (w' : World) : Prop := e = .returned (.tuple #[.bool r.1, .bool r.2]) ∧ Below w.heap.size w w'
def firstF (n : Int) (xs : List Int) : Option Nat := firstTo (steps xs) n.toNat (2 ^ n.toNat)
def sortsAllF (n : Int) (xs : List Int) : Bool × Bool := if isNetF n xs = true then ((firstF n xs).isNone, true) else (false, false)
def firstUnsortedF (n : Int) (xs : List Int) : List Int × Bool := if isNetF n xs = true then (firstL n.toNat (firstF n xs), (firstF n xs).isSome) else ([], false)
theorem spec_SortsAll_any (w : World) (n : Int) (ao : Option Addr) (len c : Nat) (xs : List Int) (ha : Flat 2 w w.heap.size ao len xs) :
    Calls Try.prog 24 #[.int .i64 n, .slice ao len c] w (RetBB (sortsAllF n xs) w) := by
  have hlen := Lib.hid ha.1
  cases hnet : isNetF n xs
  · go_enter Try.func24, Try.ntmps24
    go_wp2_with (go_at_call 49; refine (soGood_any _ _ _ _ _ _ ha).mono ?_; rintro e w1 ⟨rfl, hb1⟩; rw [hnet])
    go_ret2
    exact ⟨by simp [sortsAllF, hnet], hb1⟩
  · obtain ⟨f1, f2, f3, f4⟩ := isNet_facts hlen.out hnet
    obtain ⟨n, rfl⟩ := Int.eq_ofNat_of_zero_le (show 0 ≤ n by omega)
    have HF := Lib.hid f4
    have e : sortsAllF (n : Int) xs = ((firstTo (steps xs) n (2 ^ n)).isNone, true) := by unfold sortsAllF; rw [if_pos hnet]; rfl
    have HE := Lib.hid e
    clear f4 e
    go_enter Try.func24, Try.ntmps24
    go_wp2_with (first | (go_at_call 49; refine (soGood_any _ _ _ _ _ _ ha).mono ?_; rintro e w1 ⟨rfl, hb1⟩; rw [hnet]; have haB := (ha.below hb1 (Nat.le_refl _)).up hb1.size) | (go_at_call 57; refine (soFirst_any _ _ _ _ _ _ haB (by omega) (by omega) HF.out).mono ?_; rintro e w2 ⟨a1, n1, c1, rfl, ho1, hb2⟩))
    go_ret2
    have hl := ho1.1
    refine ⟨?_, hb1.trans (hb2.mono hb1.size)⟩
    rw [HE.out]
    cases hf : firstTo (steps xs) n (2 ^ n) with
    | none => rw [hf] at hl; simp [firstL] at hl; simp [← hl]
    | some k => rw [hf] at hl; simp [firstL, btOfL_length] at hl; simp; omega
theorem impl_SortsAll_any (w : World) (n : Int) (ao : Option Addr) (len c : Nat) (xs : List Int) (ha : Flat 2 w w.heap.size ao len xs) :
    Calls Try.prog 25 #[.int .i64 n, .slice ao len c] w (RetBB (sortsAllF n xs) w) := by
  have hlen := Lib.hid ha.1
  cases hnet : isNetF n xs
  · go_enter Try.func25, Try.ntmps25
    go_wp2_with (go_at_call 16; refine (impl_IsNetwork_any _ _ _ _ _ _ ha).mono ?_; rintro e w1 ⟨rfl, hb1⟩; rw [hnet])
    go_ret2
    exact ⟨by simp [sortsAllF, hnet], hb1⟩
  · obtain ⟨f1, f2, f3, f4⟩ := isNet_facts hlen.out hnet
    obtain ⟨n, rfl⟩ := Int.eq_ofNat_of_zero_le (show 0 ≤ n by omega)
    have HF := Lib.hid f4
    have e : sortsAllF (n : Int) xs = ((firstTo (steps xs) n (2 ^ n)).isNone, true) := by unfold sortsAllF; rw [if_pos hnet]; rfl
    have HE := Lib.hid e
    clear f4 e
    go_enter Try.func25, Try.ntmps25
    go_wp2_with (first | (go_at_call 16; refine (impl_IsNetwork_any _ _ _ _ _ _ ha).mono ?_; rintro e w1 ⟨rfl, hb1⟩; rw [hnet]; have haB := (ha.below hb1 (Nat.le_refl _)).up hb1.size) | (go_at_call 58; refine (zeroOnes_any _ _ _ _ _ _ haB (by omega) HF.out).mono ?_; rintro e w2 ⟨b1, m1, c1, rfl, ho1, hb2⟩))
    go_ret2
    refine ⟨?_, hb1.trans (hb2.mono hb1.size)⟩
    rw [HE.out]
    cases firstTo (steps xs) n (2 ^ n) with
    | none => simp [firstN]
    | some k =>
      have hk : ¬ ((k : Int) < 0) := by omega
      simp [firstN, hk]
theorem spec_FirstUnsorted_any (w : World) (n : Int) (ao : Option Addr) (len c : Nat) (xs : List Int) (ha : Flat 2 w w.heap.size ao len xs) :
    Calls Try.prog 37 #[.int .i64 n, .slice ao len c] w (RetIB (firstUnsortedF n xs) w) := by
  have hlen := Lib.hid ha.1
  cases hnet : isNetF n xs
  · go_enter Try.func37, Try.ntmps37
    go_wp2_with (go_at_call 49; refine (soGood_any _ _ _ _ _ _ ha).mono ?_; rintro e w1 ⟨rfl, hb1⟩; rw [hnet])
    go_ret2
    exact ⟨none, 0, 0, by simp [firstUnsortedF, hnet], by simpa [firstUnsortedF, hnet] using OwnI.nil _ _ _, hb1⟩
  · obtain ⟨f1, f2, f3, f4⟩ := isNet_facts hlen.out hnet
    obtain ⟨n, rfl⟩ := Int.eq_ofNat_of_zero_le (show 0 ≤ n by omega)
    have HF := Lib.hid f4
    have e : firstUnsortedF (n : Int) xs = (firstL n (firstTo (steps xs) n (2 ^ n)), (firstTo (steps xs) n (2 ^ n)).isSome) := by unfold firstUnsortedF; rw [if_pos hnet]; rfl
    have HE := Lib.hid e
    clear f4 e
    go_enter Try.func37, Try.ntmps37
    go_wp2_with (first | (go_at_call 49; refine (soGood_any _ _ _ _ _ _ ha).mono ?_; rintro e w1 ⟨rfl, hb1⟩; rw [hnet]; have haB := (ha.below hb1 (Nat.le_refl _)).up hb1.size) | (go_at_call 57; refine (soFirst_any _ _ _ _ _ _ haB (by omega) (by omega) HF.out).mono ?_; rintro e w2 ⟨a1, n1, c1, rfl, ho1, hb2⟩))
    go_ret2
    have hl := ho1.1
    refine ⟨_, _, _, ?_, by rw [HE.out]; exact ho1.up hb1.size, hb1.trans (hb2.mono hb1.size)⟩
    rw [HE.out]
    cases hf : firstTo (steps xs) n (2 ^ n) with
    | none => rw [hf] at hl; simp [firstL] at hl; simp [← hl]
    | some k => rw [hf] at hl; simp [firstL, btOfL_length] at hl; simp; omega
theorem impl_FirstUnsorted_any (w : World) (n : Int) (ao : Option Addr) (len c : Nat) (xs : List Int) (ha : Flat 2 w w.heap.size ao len xs) :
    Calls Try.prog 38 #[.int .i64 n, .slice ao len c] w (RetIB (firstUnsortedF n xs) w) := by
  have hlen := Lib.hid ha.1
  cases hnet : isNetF n xs
  · go_enter Try.func38, Try.ntmps38
    go_wp2_with (go_at_call 16; refine (impl_IsNetwork_any _ _ _ _ _ _ ha).mono ?_; rintro e w1 ⟨rfl, hb1⟩; rw [hnet])
    go_ret2
    exact ⟨none, 0, 0, by simp [firstUnsortedF, hnet], by simpa [firstUnsortedF, hnet] using OwnI.nil _ _ _, hb1⟩
  · obtain ⟨f1, f2, f3, f4⟩ := isNet_facts hlen.out hnet
    obtain ⟨n, rfl⟩ := Int.eq_ofNat_of_zero_le (show 0 ≤ n by omega)
    have HF := Lib.hid f4
    have hq := pow_le12 (show n ≤ 12 by omega)
    have e : firstUnsortedF (n : Int) xs = (firstL n (firstTo (steps xs) n (2 ^ n)), (firstTo (steps xs) n (2 ^ n)).isSome) := by unfold firstUnsortedF; rw [if_pos hnet]; rfl
    have HE := Lib.hid e
    clear f4 e
    cases hf : firstTo (steps xs) n (2 ^ n) with
    | none =>
      rw [hf] at HE
      go_enter Try.func38, Try.ntmps38
      go_wp2_with (first | (go_at_call 16; refine (impl_IsNetwork_any _ _ _ _ _ _ ha).mono ?_; rintro e w1 ⟨rfl, hb1⟩; rw [hnet]; have haB := (ha.below hb1 (Nat.le_refl _)).up hb1.size) | (go_at_call 58; refine (zeroOnes_any _ _ _ _ _ _ haB (by omega) HF.out).mono ?_; rw [hf]; rintro e w2 ⟨b1, m1, c1, rfl, ho1, hb2⟩; rw [show firstN none = -1 from rfl]))
      go_ret2
      exact ⟨none, 0, 0, by rw [HE.out]; rfl, by rw [HE.out]; exact OwnI.nil _ _ _, hb1.trans (hb2.mono hb1.size)⟩
    | some k =>
      have hk : k < 2 ^ n := by
        have := List.mem_of_find?_eq_some hf
        simpa using this
      have hk2 : k ≤ 4096 := by omega
      have HK := Lib.hid hk
      rw [hf] at HE
      clear hk hq
      go_enter Try.func38, Try.ntmps38
      go_wp2_with (first | (go_at_call 16; refine (impl_IsNetwork_any _ _ _ _ _ _ ha).mono ?_; rintro e w1 ⟨rfl, hb1⟩; rw [hnet]; have haB := (ha.below hb1 (Nat.le_refl _)).up hb1.size) | (go_at_call 58; refine (zeroOnes_any _ _ _ _ _ _ haB (by omega) HF.out).mono ?_; rw [hf]; rintro e w2 ⟨b1, m1, c1, rfl, ho1, hb2⟩; rw [show firstN (some k) = (k : Int) from rfl]) | (go_at_call 65; refine (bitsOf_any _ _ _ (by omega) (by omega)).mono ?_; rintro e w3 ⟨a3, n3, c3, rfl, ho3, hb3⟩))
      go_ret2
      have hS := Nat.le_trans hb1.size hb2.size
      exact ⟨_, _, _, by rw [HE.out]; rfl, by rw [HE.out]; exact ho3.up hS, hb1.trans ((hb2.trans (hb3.mono hb2.size)).mono hb1.size)⟩

/-! ### NeedlessSteps, PruneNetwork -/
def marksF (n : Int) (xs : List Int) : List Bool := marksTo (steps xs) n.toNat (2 ^ n.toNat)
def needlessF (n : Int) (xs : List Int) : List Int × Bool := if isNetF n xs = true then (falseAt (marksF n xs) (xs.length / 2), true) else ([], false)
theorem spec_NeedlessSteps_any (w : World) (n : Int) (ao : Option Addr) (len c : Nat) (xs : List Int) (ha : Flat 2 w w.heap.size ao len xs) :
    Calls Try.prog 39 #[.int .i64 n, .slice ao len c] w (RetIB (needlessF n xs) w) := by
  have hlen := Lib.hid ha.1
  cases hnet : isNetF n xs
  · go_enter Try.func39, Try.ntmps39
    go_wp2_with (go_at_call 49; refine (soGood_any _ _ _ _ _ _ ha).mono ?_; rintro e w1 ⟨rfl, hb1⟩; rw [hnet])
    go_ret2
    exact ⟨none, 0, 0, by simp [needlessF, hnet], by simpa [needlessF, hnet] using OwnI.nil _ _ _, hb1⟩
  · obtain ⟨f1, f2, f3, f4⟩ := isNet_facts hlen.out hnet
    obtain ⟨n, rfl⟩ := Int.eq_ofNat_of_zero_le (show 0 ≤ n by omega)
    have HF := Lib.hid f4
    have e : needlessF (n : Int) xs = (falseAt (marksTo (steps xs) n (2 ^ n)) len, true) := by unfold needlessF; rw [if_pos hnet, hlen.out, Nat.mul_div_cancel _ (by decide)]; rfl
    have HE := Lib.hid e
    clear f4 e
    go_enter Try.func39, Try.ntmps39
    go_wp2_with (first | (go_at_call 49; refine (soGood_any _ _ _ _ _ _ ha).mono ?_; rintro e w1 ⟨rfl, hb1⟩; rw [hnet]; have haB := (ha.below hb1 (Nat.le_refl _)).up hb1.size) | (go_at_call 66; refine (soNeedless_any _ _ _ _ _ _ haB (by omega) (by omega) HF.out).mono ?_; rintro e w2 ⟨a1, n1, c1, rfl, ho1, hb2⟩))
    go_ret2
    exact ⟨_, _, _, by rw [HE.out]; rfl, by rw [HE.out]; exact ho1.up hb1.size, hb1.trans (hb2.mono hb1.size)⟩
theorem impl_NeedlessSteps_any (w : World) (n : Int) (ao : Option Addr) (len c : Nat) (xs : List Int) (ha : Flat 2 w w.heap.size ao len xs) :
    Calls Try.prog 40 #[.int .i64 n, .slice ao len c] w (RetIB (needlessF n xs) w) := by
  have hlen := Lib.hid ha.1
  have hsl := Lib.hid (steps_length len xs ha.1)
  cases hnet : isNetF n xs
  · go_enter Try.func40, Try.ntmps40
    go_wp2_with (go_at_call 16; refine (impl_IsNetwork_any _ _ _ _ _ _ ha).mono ?_; rintro e w1 ⟨rfl, hb1⟩; rw [hnet])
    go_ret2
    exact ⟨none, 0, 0, by simp [needlessF, hnet], by simpa [needlessF, hnet] using OwnI.nil _ _ _, hb1⟩
  · obtain ⟨f1, f2, f3, f4⟩ := isNet_facts hlen.out hnet
    obtain ⟨n, rfl⟩ := Int.eq_ofNat_of_zero_le (show 0 ≤ n by omega)
    have HF := Lib.hid f4
    obtain ⟨M, hM⟩ : ∃ M, M = marksTo (steps xs) n (2 ^ n) := ⟨_, rfl⟩
    have e : needlessF (n : Int) xs = (falseAt M len, true) := by rw [hM]; unfold needlessF; rw [if_pos hnet, hlen.out, Nat.mul_div_cancel _ (by decide)]; rfl
    have hml : M.length = len := by rw [hM, marksTo_length, hsl.out]
    have HM := Lib.hid hM
    have HML := Lib.hid hml
    have HE := Lib.hid e
    clear f4 e hM hml
    go_enter Try.func40, Try.ntmps40
    go_wp2_with fail
    refine (impl_IsNetwork_any _ _ _ _ _ _ ha).mono ?_
    rintro e w1 ⟨rfl, hb1⟩
    rw [hnet]
    have hb2 : Below w.heap.size w (w1.alloc (.cells #[] 3)) := hb1.alloc hb1.size _
    have haB := (ha.below hb2 (Nat.le_refl _)).up hb2.size
    go_wp2_with fail
    refine (zeroOnes_any _ _ _ _ _ _ haB (by omega) HF.out).mono ?_
    rintro e w3 ⟨b1, m1, c1, rfl, ho1, hb3⟩
    rw [← HM.out] at ho1
    obtain rfl : m1 = len := by have := ho1.1; rw [HML.out] at this; exact this.symm
    have hbel3 := hb2.trans (hb3.mono hb2.size)
    go_wp2_with fail
    go_loopw [6, 24] (fun out i wr => ∃ (j : Nat) (co : Option Addr) (m cap : Nat), j ≤ m1 ∧ m ≤ j ∧ i = .int .i64 j ∧ out = .slice co m cap ∧ OwnI w3.heap.size wr co m cap (falseAt M j) ∧ Below w3.heap.size w3 wr) (fun _ i _ => m1 - (intOf i).toNat)
    case atStart => exact ⟨0, _, 0, 0, by omega, by omega, rfl, rfl, OwnI.nil _ _ _, Below.refl _ _⟩
    case round =>
      obtain ⟨j, co, m, cap, j1, j2, rfl, rfl, hout, hbr⟩ := hrel
      have hmk := ho1.below hbr (Nat.le_refl _)
      by_cases hj : j < m1
      · obtain ⟨g, rfl, _, _⟩ := ho1.blk (by omega)
        obtain ⟨u, hu⟩ := get_at (i := j) HML.out hj
        have y2 := hmk.cell hu
        cases u
        · have HFA := Lib.hid (falseAt_yes hu)
          clear hu
          go_wp2_with (at_builtin; refine wpList_append_i rfl _ _ rfl w3.heap.size _ _ _ _ _ rfl rfl hout (by omega) hbr.size ?_; intro ao' cap' w4 hown4 hg4)
          have hbr4 := below_append hbr hout.2.2 hg4 hbr.size
          go_roundw
          case rel => exact ⟨j + 1, ao', m + 1, cap', by omega, by omega, by go_num, rfl, by rw [HFA.out]; exact hown4, hbr4⟩
          case measure => simp [intOf] <;> omega
        · have HFA := Lib.hid (falseAt_no hu)
          clear hu
          go_wp2_with fail
          go_roundw
          case rel => exact ⟨j + 1, co, m, cap, by omega, by omega, by go_num, rfl, by rw [HFA.out]; exact hout, hbr⟩
          case measure => simp [intOf] <;> omega
      · obtain rfl : j = m1 := by omega
        go_wp2_with fail
        go_ret2
        exact ⟨_, _, _, by rw [HE.out]; rfl, by rw [HE.out]; exact hout.up (Nat.le_trans hb2.size hb3.size), hbel3.trans (hbr.mono hbel3.size)⟩
/-- The steps that are marked. -/
def trueAt (xs : List Int) (bs : List Bool) (k : Nat) : List Int := (List.range k).flatMap fun i => if bs.getD i false = true then [xs.getD (i * 2) 0, xs.getD (i * 2 + 1) 0] else []
theorem trueAt_yes {xs : List Int} {bs : List Bool} {k : Nat} {x y : Int} (h : bs[k]? = some true) (hx : xs[k * 2]? = some x) (hy : xs[k * 2 + 1]? = some y) : trueAt xs bs (k + 1) = trueAt xs bs k ++ [x, y] := by
  simp [trueAt, List.range_succ, List.getD, h, hx, hy]
theorem trueAt_no {xs : List Int} {bs : List Bool} {k : Nat} (h : bs[k]? = some false) : trueAt xs bs (k + 1) = trueAt xs bs k := by
  simp [trueAt, List.range_succ, List.getD, h]
def pruneF (n : Int) (xs : List Int) : List Int × Bool := if isNetF n xs = true then (trueAt xs (marksF n xs) (xs.length / 2), true) else ([], false)
theorem Flat.step2 {w : World} {B : Nat} {ao : Option Addr} {n : Nat} {xs : List Int} (h : Flat 2 w B ao n xs) {k : Nat} (hk : k < n) :
    ∃ b off x y, ao = some ⟨b, off, none⟩ ∧ b < B ∧ xs[k * 2]? = some x ∧ xs[k * 2 + 1]? = some y ∧ w.cell? ⟨b, off + k * 2, none⟩ = some (.int .i64 x) ∧ w.cell? ⟨b, off + k * 2 + 1, none⟩ = some (.int .i64 y) := by
  obtain ⟨b, off, rfl, hb, hat⟩ := h.at (by decide) hk
  obtain ⟨x, hx, hcx⟩ := hat 0 (by decide)
  obtain ⟨y, hy, hcy⟩ := hat 1 (by decide)
  exact ⟨b, off, x, y, rfl, hb, hx, hy, hcx, by rw [Nat.add_assoc]; exact hcy⟩
theorem spec_PruneNetwork_any (w : World) (n : Int) (ao : Option Addr) (len c : Nat) (xs : List Int) (ha : Flat 2 w w.heap.size ao len xs) :
    Calls Try.prog 41 #[.int .i64 n, .slice ao len c] w (RetFB 2 57 (pruneF n xs) w) := by
  have hlen := Lib.hid ha.1
  have hsl := Lib.hid (steps_length len xs ha.1)
  cases hnet : isNetF n xs
  · go_enter Try.func41, Try.ntmps41
    go_wp2_with (go_at_call 49; refine (soGood_any _ _ _ _ _ _ ha).mono ?_; rintro e w1 ⟨rfl, hb1⟩; rw [hnet])
    go_ret2
    exact ⟨none, 0, 0, by simp [pruneF, hnet], by simpa [pruneF, hnet] using OwnF.nil _ _ _, hb1⟩
  · obtain ⟨f1, f2, f3, f4⟩ := isNet_facts hlen.out hnet
    obtain ⟨n, rfl⟩ := Int.eq_ofNat_of_zero_le (show 0 ≤ n by omega)
    have HF := Lib.hid f4
    obtain ⟨M, hM⟩ : ∃ M, M = marksTo (steps xs) n (2 ^ n) := ⟨_, rfl⟩
    have e : pruneF (n : Int) xs = (trueAt xs M len, true) := by rw [hM]; unfold pruneF; rw [if_pos hnet, hlen.out, Nat.mul_div_cancel _ (by decide)]; rfl
    have hml : M.length = len := by rw [hM, marksTo_length, hsl.out]
    have HM := Lib.hid hM
    have HML := Lib.hid hml
    have HE := Lib.hid e
    clear f4 e hM hml
    go_enter Try.func41, Try.ntmps41
    go_wp2_with fail
    refine (soGood_any _ _ _ _ _ _ ha).mono ?_
    rintro e w1 ⟨rfl, hb1⟩
    rw [hnet]
    have haB := (ha.below hb1 (Nat.le_refl _)).up hb1.size
    go_wp2_with fail
    refine (soNeedless_any _ _ _ _ _ _ haB (by omega) (by omega) HF.out).mono ?_
    rintro e w2 ⟨a1, n1, c1, rfl, ho1, hb2⟩
    rw [← HM.out] at ho1
    have hbel2 := hb1.trans (hb2.mono hb1.size)
    have hI1 := Lib.hid ho1.ints
    clear haB
    go_wp2_with fail
    go_loopw [7, 19] (fun out i wr => ∃ (j : Nat) (co : Option Addr) (m cap : Nat), j ≤ len ∧ m ≤ j ∧ i = .int .i64 j ∧ out = .slice co m cap ∧ OwnF 2 57 w2.heap.size wr co m cap (trueAt xs M j) ∧ Below w2.heap.size w2 wr) (fun _ i _ => len - (intOf i).toNat)
    case atStart => exact ⟨0, none, 0, 0, by omega, by omega, rfl, rfl, OwnF.nil _ _ _, Below.refl _ _⟩
    case round =>
      obtain ⟨j, co, m, cap, j1, j2, rfl, rfl, hout, hbr⟩ := hrel
      by_cases hj : j < len
      · have hbelr := hbel2.trans (hbr.mono hbel2.size)
        obtain ⟨b1, o1, x, y, rfl, hbb, hx, hy, c0, c1'⟩ := ha.step2 hj
        have g0 : wr.cell? ⟨b1, o1 + j * 2, none⟩ = some (.int .i64 x) := (hbelr.cell (by exact hbb)).trans c0
        have g1 : wr.cell? ⟨b1, o1 + j * 2 + 1, none⟩ = some (.int .i64 y) := (hbelr.cell (by exact hbb)).trans c1'
        obtain ⟨u, hu⟩ := get_at (i := j) HML.out hj
        have HFM := falseAt_mem (bs := M) hj
        have hgd : M.getD j true = u := by simp [List.getD, hu]
        rw [hgd] at HFM
        have hal0 : Below wr.heap.size wr (wr.alloc (.cells #[.int .i64 x, .int .i64 y] 57)) := (Below.refl _ _).alloc (Nat.le_refl _) _
        have hbra : Below w2.heap.size w2 (wr.alloc (.cells #[.int .i64 x, .int .i64 y] 57)) := hbr.trans (hal0.mono hbr.size)
        have hI2 := Lib.hid (hI1.out.below hbra (Nat.le_refl _))
        have hout2 := hout.below hal0 (Nat.le_refl _)
        have hbx := heap_alloc_new wr (.cells #[.int .i64 x, .int .i64 y] 57)
        cases u
        · have HT := Lib.hid (trueAt_no (xs := xs) hu)
          have HFM2 := Lib.hid HFM
          clear hu hgd hx hy c0 c1' HFM
          go_wp2_with (go_at_call 67; refine (l1Has_any _ _ _ _ _ _ _ hI2.out).mono ?_; rintro e w' ⟨rfl, rfl⟩; rw [HFM2.out])
          go_roundw
          case rel => exact ⟨j + 1, co, m, cap, by omega, by omega, by go_num, rfl, by rw [HT.out]; exact hout2, hbra⟩
          case measure => simp [intOf] <;> omega
        · have HT := Lib.hid (trueAt_yes hu hx hy)
          have HFM2 := Lib.hid HFM
          clear hu hgd hx hy c0 c1' HFM
          go_wp2_with fail
          generalize wr.alloc (.cells #[.int .i64 x, .int .i64 y] 57) = W2 at *
          have x0 : W2.cell? ⟨wr.heap.size, 0, none⟩ = some (.int .i64 x) := by rw [cell_of_row W2 _ 0 _ _ (0, 0) hbx]; rfl
          have x1 : W2.cell? ⟨wr.heap.size, 1, none⟩ = some (.int .i64 y) := by rw [cell_of_row W2 _ 1 _ _ (0, 0) hbx]; rfl
          refine (l1Has_any _ _ _ _ _ _ _ hI2.out).mono ?_
          rintro e w' ⟨rfl, rfl⟩
          rw [HFM2.out]
          go_wp2_with (at_builtin; refine wpList_append_Step rfl _ _ rfl w2.heap.size _ _ _ _ _ _ rfl rfl hout2 (by omega) hbra.size ?_; intro ao' cap' w4 hown4 hg4)
          have hbr4 := below_append hbra hout2.2.2 hg4 hbra.size
          go_roundw
          case rel => exact ⟨j + 1, ao', m + 1, cap', by omega, by omega, by go_num, rfl, by rw [HT.out]; exact hown4, hbr4⟩
          case measure => simp [intOf] <;> omega
      · obtain rfl : j = len := by omega
        go_wp2_with fail
        go_ret2
        exact ⟨_, _, _, by rw [HE.out]; rfl, by rw [HE.out]; exact hout.up (Nat.le_trans hb1.size hb2.size), hbel2.trans (hbr.mono hbel2.size)⟩
theorem impl_PruneNetwork_any (w : World) (n : Int) (ao : Option Addr) (len c : Nat) (xs : List Int) (ha : Flat 2 w w.heap.size ao len xs) :
    Calls Try.prog 42 #[.int .i64 n, .slice ao len c] w (RetFB 2 57 (pruneF n xs) w) := by
  have hlen := Lib.hid ha.1
  have hsl := Lib.hid (steps_length len xs ha.1)
  cases hnet : isNetF n xs
  · go_enter Try.func42, Try.ntmps42
    go_wp2_with (go_at_call 16; refine (impl_IsNetwork_any _ _ _ _ _ _ ha).mono ?_; rintro e w1 ⟨rfl, hb1⟩; rw [hnet])
    go_ret2
    exact ⟨none, 0, 0, by simp [pruneF, hnet], by simpa [pruneF, hnet] using OwnF.nil _ _ _, hb1⟩
  · obtain ⟨f1, f2, f3, f4⟩ := isNet_facts hlen.out hnet
    obtain ⟨n, rfl⟩ := Int.eq_ofNat_of_zero_le (show 0 ≤ n by omega)
    have HF := Lib.hid f4
    obtain ⟨M, hM⟩ : ∃ M, M = marksTo (steps xs) n (2 ^ n) := ⟨_, rfl⟩
    have e : pruneF (n : Int) xs = (trueAt xs M len, true) := by rw [hM]; unfold pruneF; rw [if_pos hnet, hlen.out, Nat.mul_div_cancel _ (by decide)]; rfl
    have hml : M.length = len := by rw [hM, marksTo_length, hsl.out]
    have HM := Lib.hid hM
    have HML := Lib.hid hml
    have HE := Lib.hid e
    clear f4 e hM hml
    go_enter Try.func42, Try.ntmps42
    go_wp2_with fail
    refine (impl_IsNetwork_any _ _ _ _ _ _ ha).mono ?_
    rintro e w1 ⟨rfl, hb1⟩
    rw [hnet]
    have hb2 : Below w.heap.size w (w1.alloc (.cells #[] 57)) := hb1.alloc hb1.size _
    have haB := (ha.below hb2 (Nat.le_refl _)).up hb2.size
    go_wp2_with fail
    refine (zeroOnes_any _ _ _ _ _ _ haB (by omega) HF.out).mono ?_
    rintro e w3 ⟨b1, m1, c1, rfl, ho1, hb3⟩
    rw [← HM.out] at ho1
    obtain rfl : m1 = len := by have := ho1.1; rw [HML.out] at this; exact this.symm
    have hbel3 := hb2.trans (hb3.mono hb2.size)
    clear haB
    go_wp2_with fail
    go_loopw [6, 24] (fun out i wr => ∃ (j : Nat) (co : Option Addr) (m cap : Nat), j ≤ m1 ∧ m ≤ j ∧ i = .int .i64 j ∧ out = .slice co m cap ∧ OwnF 2 57 w3.heap.size wr co m cap (trueAt xs M j) ∧ Below w3.heap.size w3 wr) (fun _ i _ => m1 - (intOf i).toNat)
    case atStart => exact ⟨0, _, 0, 0, by omega, by omega, rfl, rfl, OwnF.nil _ _ _, Below.refl _ _⟩
    case round =>
      obtain ⟨j, co, m, cap, j1, j2, rfl, rfl, hout, hbr⟩ := hrel
      by_cases hj : j < m1
      · have hbelr := hbel3.trans (hbr.mono hbel3.size)
        obtain ⟨b2, o2, x, y, rfl, hbb, hx, hy, c0, c1'⟩ := ha.step2 hj
        have g0 : wr.cell? ⟨b2, o2 + j * 2, none⟩ = some (.int .i64 x) := (hbelr.cell (by exact hbb)).trans c0
        have g1 : wr.cell? ⟨b2, o2 + j * 2 + 1, none⟩ = some (.int .i64 y) := (hbelr.cell (by exact hbb)).trans c1'
        obtain ⟨g, rfl, _, _⟩ := ho1.blk (by omega)
        obtain ⟨u, hu⟩ := get_at (i := j) HML.out hj
        have hal0 : Below wr.heap.size wr (wr.alloc (.cells #[.int .i64 x, .int .i64 y] 57)) := (Below.refl _ _).alloc (Nat.le_refl _) _
        have hbra : Below w3.heap.size w3 (wr.alloc (.cells #[.int .i64 x, .int .i64 y] 57)) := hbr.trans (hal0.mono hbr.size)
        have y2 := (ho1.below hbra (Nat.le_refl _)).cell hu
        have hout2 := hout.below hal0 (Nat.le_refl _)
        have hbx := heap_alloc_new wr (.cells #[.int .i64 x, .int .i64 y] 57)
        cases u
        · have HT := Lib.hid (trueAt_no (xs := xs) hu)
          clear hu hx hy c0 c1'
          go_wp2_with fail
          go_roundw
          case rel => exact ⟨j + 1, co, m, cap, by omega, by omega, by go_num, rfl, by rw [HT.out]; exact hout2, hbra⟩
          case measure => simp [intOf] <;> omega
        · have HT := Lib.hid (trueAt_yes hu hx hy)
          clear hu hx hy c0 c1'
          have x0 : (wr.alloc (.cells #[.int .i64 x, .int .i64 y] 57)).cell? ⟨wr.heap.size, 0, none⟩ = some (.int .i64 x) := by rw [cell_of_row _ _ 0 _ _ (0, 0) hbx]; rfl
          have x1 : (wr.alloc (.cells #[.int .i64 x, .int .i64 y] 57)).cell? ⟨wr.heap.size, 1, none⟩ = some (.int .i64 y) := by rw [cell_of_row _ _ 1 _ _ (0, 0) hbx]; rfl
          go_wp2_with (at_builtin; refine wpList_append_Step rfl _ _ rfl w3.heap.size _ _ _ _ _ _ rfl (by first | rfl | (simp; rfl)) hout2 (by omega) hbra.size ?_; intro ao' cap' w4 hown4 hg4)
          have hbr4 := below_append hbra hout2.2.2 hg4 hbra.size
          go_roundw
          case rel => exact ⟨j + 1, ao', m + 1, cap', by omega, by omega, by go_num, rfl, by rw [HT.out]; exact hown4, hbr4⟩
          case measure => simp [intOf] <;> omega
      · obtain rfl : j = m1 := by omega
        go_wp2_with fail
        go_ret2
        exact ⟨_, _, _, by rw [HE.out]; rfl, by rw [HE.out]; exact hout.up (Nat.le_trans hb2.size hb3.size), hbel3.trans (hbr.mono hbel3.size)⟩
end Go.Proofs.Ytoeobhjpiimomaa
