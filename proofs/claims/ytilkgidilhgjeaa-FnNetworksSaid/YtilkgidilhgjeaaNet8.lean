/-
  Networks: the answers of SortWith, SortsAll, FirstUnsorted, NeedlessSteps and PruneNetwork.
-/
import Derived.Test.YtilkgidilhgjeaaNet7
namespace Go.Proofs.Ytilkgidilhgjeaa
open Go.RowKit

theorem isNet_facts {n : Int} {xs : List Int} {len : Nat} (hl : xs.length = len * 2) (h : isNetF n xs = true) : 1 ≤ n ∧ n ≤ 12 ∧ len ≤ 60 ∧ (steps xs).any (bad n) = false := by
  simp only [isNetF, Bool.and_eq_true, Bool.not_eq_true', decide_eq_true_eq] at h
  obtain ⟨h1, h2, h3⟩ := h
  have := inB_iff.1 h1
  exact ⟨this.1, this.2, by omega, h3⟩
/-! ### SortWith -/
def sortWithF (n : Int) (xs x : List Int) : List Int × Bool := if (isNetF n xs && (decide ((x.length : Int) = n) && allIn (-1000000) 1000000 x)) = true then ((steps xs).foldl exch x, true) else ([], false)
theorem spec_SortWith_any (w : World) (n : Int) (ao bo : Option Addr) (len m c d : Nat) (xs x : List Int) (ha : Flat 2 w w.heap.size ao len xs) (hb : Ints w w.heap.size bo m x) :
    Calls Try.prog 25 #[.int .i64 n, .slice ao len c, .slice bo m d] w (RetIB (sortWithF n xs x) w) := by
  have hlx := Lib.hid hb.1
  have hlen := Lib.hid ha.1
  cases hnet : isNetF n xs
  · go_enter Try.func25, Try.ntmps25
    go_wp2_with (go_at_call 48; refine (soGood_any _ _ _ _ _ _ ha).mono ?_; rintro e w1 ⟨rfl, hb1⟩; rw [hnet])
    go_ret2
    exact ⟨none, 0, 0, by simp [sortWithF, hnet], by simpa [sortWithF, hnet] using OwnI.nil _ _ _, hb1⟩
  · by_cases hmn : (m : Int) = n
    · cases hw : allIn (-1000000) 1000000 x
      · have hmn' : ((m : Int) != n) = false := by simp [hmn]
        go_enter Try.func25, Try.ntmps25
        go_wp2_with (first | (go_at_call 48; refine (soGood_any _ _ _ _ _ _ ha).mono ?_; rintro e w1 ⟨rfl, hb1⟩; rw [hnet]; have hbB := (hb.below hb1 (Nat.le_refl _))) | (go_at_call 73; refine (l1All_any _ _ _ _ _ _ _ _ hbB).mono ?_; rintro e w' ⟨rfl, rfl⟩; rw [hw]))
        go_ret2
        exact ⟨none, 0, 0, by simp [sortWithF, hw], by simpa [sortWithF, hw] using OwnI.nil _ _ _, hb1⟩
      · subst hmn
        obtain ⟨f1, f2, f3, f4⟩ := isNet_facts hlen.out hnet
        have HF := Lib.hid f4
        have HN := Lib.hid hnet
        have HW := Lib.hid hw
        clear f4
        go_enter Try.func25, Try.ntmps25
        go_wp2_with (first | (go_at_call 48; refine (soGood_any _ _ _ _ _ _ ha).mono ?_; rintro e w1 ⟨rfl, hb1⟩; rw [hnet]; have hbB := (hb.below hb1 (Nat.le_refl _)).up hb1.size; have haB := (ha.below hb1 (Nat.le_refl _)).up hb1.size) | (go_at_call 73; refine (l1All_any _ _ _ _ _ _ _ _ hbB).mono ?_; rintro e w' ⟨rfl, rfl⟩; rw [hw]) | (go_at_call 74; refine (soWith_any _ _ _ _ _ _ _ _ _ haB hbB (by omega) HF.out).mono ?_; rintro e w2 ⟨a1, n1, c1, b1, m1, d1, rfl, ho1, ho2, hb2⟩))
        go_ret2
        have e : sortWithF (m : Int) xs x = ((steps xs).foldl exch x, true) := by unfold sortWithF; rw [if_pos]; simp [HN.out, HW.out, hlx.out]
        exact ⟨_, _, _, by rw [e]; rfl, by rw [e]; exact ho1.up hb1.size, hb1.trans (hb2.mono hb1.size)⟩
    · have hmn' : ((m : Int) != n) = true := by simp [hmn]
      go_enter Try.func25, Try.ntmps25
      go_wp2_with (go_at_call 48; refine (soGood_any _ _ _ _ _ _ ha).mono ?_; rintro e w1 ⟨rfl, hb1⟩; rw [hnet])
      go_ret2
      have hx : ¬ (x.length : Int) = n := by rw [hlx.out]; exact hmn
      exact ⟨none, 0, 0, by simp [sortWithF, hx], by simpa [sortWithF, hx] using OwnI.nil _ _ _, hb1⟩
theorem sortWith1_any (v : Int) (w : World) : Calls Try.prog 70 #[.int .i64 v] w fun e w' => e = .returned (.bool (inB v (-1000000) 1000000)) ∧ w = w' := by
  go_enter Try.func70, Try.ntmps70
  go_wp2_with (go_at_call 71; refine (within_any _ _ _ _).mono ?_; rintro e w' ⟨rfl, rfl⟩)
  go_ret
  exact ⟨rfl, rfl⟩
theorem pred_sortWith1 (w : World) (xs : List Int) : Pred 70 #[] w (fun x => inB x (-1000000) 1000000) xs :=
  ⟨fun args W => by kernel_rfl, fun x _ W _ => (sortWith1_any x W).mono fun e W' ⟨he, hw⟩ => ⟨he, hw ▸ Below.refl _ _⟩⟩
theorem impl_SortWith_any (w : World) (n : Int) (ao bo : Option Addr) (len m c d : Nat) (xs x : List Int) (ha : Flat 2 w w.heap.size ao len xs) (hb : Ints w w.heap.size bo m x) :
    Calls Try.prog 24 #[.int .i64 n, .slice ao len c, .slice bo m d] w (RetIB (sortWithF n xs x) w) := by
  have hlx := Lib.hid hb.1
  have hlen := Lib.hid ha.1
  cases hnet : isNetF n xs
  · go_enter Try.func24, Try.ntmps24
    go_wp2_with (go_at_call 27; refine (impl_IsNetwork_any _ _ _ _ _ _ ha).mono ?_; rintro e w1 ⟨rfl, hb1⟩; rw [hnet])
    go_ret2
    exact ⟨none, 0, 0, by simp [sortWithF, hnet], by simpa [sortWithF, hnet] using OwnI.nil _ _ _, hb1⟩
  · by_cases hmn : (m : Int) = n
    · cases hw : allIn (-1000000) 1000000 x
      · have hmn' : ((m : Int) != n) = false := by simp [hmn]
        go_enter Try.func24, Try.ntmps24
        go_wp2_with (first | (go_at_call 27; refine (impl_IsNetwork_any _ _ _ _ _ _ ha).mono ?_; rintro e w1 ⟨rfl, hb1⟩; rw [hnet]; have hbB := (hb.below hb1 (Nat.le_refl _)).up hb1.size) | (go_at_call 69; refine (areAll_any _ _ _ _ _ _ _ _ hbB (pred_sortWith1 _ _)).mono ?_; rintro e w2 ⟨rfl, hb2⟩; rw [show (x.all fun x => inB x (-1000000) 1000000) = false from hw]))
        go_ret2
        exact ⟨none, 0, 0, by simp [sortWithF, hw], by simpa [sortWithF, hw] using OwnI.nil _ _ _, hb1.trans (hb2.mono hb1.size)⟩
      · subst hmn
        obtain ⟨f1, f2, f3, f4⟩ := isNet_facts hlen.out hnet
        have HF := Lib.hid f4
        have HN := Lib.hid hnet
        have HW := Lib.hid hw
        clear f4
        obtain ⟨i0, hi, hz0, hz1, hz2⟩ := info_parts bool_info
        go_enter Try.func24, Try.ntmps24
        go_wp2_with (first | (go_at_call 27; refine (impl_IsNetwork_any _ _ _ _ _ _ ha).mono ?_; rintro e w1 ⟨rfl, hb1⟩; rw [hnet]; have hbB := (hb.below hb1 (Nat.le_refl _)).up hb1.size; have haB := (ha.below hb1 (Nat.le_refl _)).up hb1.size) | (go_at_call 69; refine (areAll_any _ _ _ _ _ _ _ _ hbB (pred_sortWith1 _ _)).mono ?_; rintro e w2 ⟨rfl, hb2⟩; rw [show (x.all fun x => inB x (-1000000) 1000000) = true from hw]; have hbC := (hbB.below hb2 (Nat.le_refl _)).up hb2.size; have haC := (haB.below hb2 (Nat.le_refl _)).up hb2.size) | (at_make; refine wpList_make_full _ rfl _ _ 101 rfl w2.heap.size 4 i0 (.bool false) 1 Try.underlying101 hi hz0 hz1 _ _ _ _ len rfl rfl rfl rfl (by rw [hz2]; omega) (by unfold maxLen; omega) (Nat.le_refl _) ?_; intro w3 hown3 hg3))
        rw [show (Value.bool false).cells = #[.bool false] from rfl, toList_madeCells_one, Nat.mul_one] at hown3
        have hsl := steps_length len xs hlen.out
        have hm3 : OwnB w2.heap.size w3 (some ⟨w2.heap.size, 0, none⟩) len len (List.replicate len false) := ⟨by simp, by omega, .inr ⟨_, rfl, by simpa using hown3⟩⟩
        have hb3 : Below w2.heap.size w2 w3 := (Below.refl _ _).grown hg3 (Nat.le_refl _) (by simp)
        refine (sortWith_any _ _ _ _ _ _ _ _ _ _ _ _ _ (haC.below hb3 (Nat.le_refl _)) ((hbC.below hb3 (Nat.le_refl _)).up hb3.size) hm3 hb3.size (by omega) HF.out).mono ?_
        rintro e w4 ⟨a1, n1, c1, rfl, ho1, _, hg4⟩
        have hb4 := below_row hm3 hg4 hb3.size
        go_wp2_with fail
        go_ret2
        have e : sortWithF (m : Int) xs x = ((steps xs).foldl exch x, true) := by unfold sortWithF; rw [if_pos]; simp [HN.out, HW.out, hlx.out]
        have hS := Nat.le_trans hb1.size (Nat.le_trans hb2.size hb3.size)
        exact ⟨_, _, _, by rw [e]; rfl, by rw [e]; exact ho1.up hS, hb1.trans ((hb2.trans ((hb3.trans hb4).mono hb2.size)).mono hb1.size)⟩
    · have hmn' : ((m : Int) != n) = true := by simp [hmn]
      go_enter Try.func24, Try.ntmps24
      go_wp2_with (go_at_call 27; refine (impl_IsNetwork_any _ _ _ _ _ _ ha).mono ?_; rintro e w1 ⟨rfl, hb1⟩; rw [hnet])
      go_ret2
      have hx : ¬ (x.length : Int) = n := by rw [hlx.out]; exact hmn
      exact ⟨none, 0, 0, by simp [sortWithF, hx], by simpa [sortWithF, hx] using OwnI.nil _ _ _, hb1⟩

/-! ### SortsAll, FirstUnsorted -/
/-- Two bools back. -/
def RetBB (r : Bool × Bool) (w : World) (e : Ending) (w' : World) : Prop := e = .returned (.tuple #[.bool r.1, .bool r.2]) ∧ Below w.heap.size w w'
def firstF (n : Int) (xs : List Int) : Option Nat := firstTo (steps xs) n.toNat (2 ^ n.toNat)
def sortsAllF (n : Int) (xs : List Int) : Bool × Bool := if isNetF n xs = true then ((firstF n xs).isNone, true) else (false, false)
def firstUnsortedF (n : Int) (xs : List Int) : List Int × Bool := if isNetF n xs = true then (firstL n.toNat (firstF n xs), (firstF n xs).isSome) else ([], false)
theorem spec_SortsAll_any (w : World) (n : Int) (ao : Option Addr) (len c : Nat) (xs : List Int) (ha : Flat 2 w w.heap.size ao len xs) :
    Calls Try.prog 30 #[.int .i64 n, .slice ao len c] w (RetBB (sortsAllF n xs) w) := by
  have hlen := Lib.hid ha.1
  cases hnet : isNetF n xs
  · go_enter Try.func30, Try.ntmps30
    go_wp2_with (go_at_call 48; refine (soGood_any _ _ _ _ _ _ ha).mono ?_; rintro e w1 ⟨rfl, hb1⟩; rw [hnet])
    go_ret2
    exact ⟨by simp [sortsAllF, hnet], hb1⟩
  · obtain ⟨f1, f2, f3, f4⟩ := isNet_facts hlen.out hnet
    obtain ⟨n, rfl⟩ := Int.eq_ofNat_of_zero_le (show 0 ≤ n by omega)
    have HF := Lib.hid f4
    have e : sortsAllF (n : Int) xs = ((firstTo (steps xs) n (2 ^ n)).isNone, true) := by unfold sortsAllF; rw [if_pos hnet]; rfl
    have HE := Lib.hid e
    clear f4 e
    go_enter Try.func30, Try.ntmps30
    go_wp2_with (first | (go_at_call 48; refine (soGood_any _ _ _ _ _ _ ha).mono ?_; rintro e w1 ⟨rfl, hb1⟩; rw [hnet]; have haB := (ha.below hb1 (Nat.le_refl _)).up hb1.size) | (go_at_call 78; refine (soFirst_any _ _ _ _ _ _ haB (by omega) (by omega) HF.out).mono ?_; rintro e w2 ⟨a1, n1, c1, rfl, ho1, hb2⟩))
    go_ret2
    have hl := ho1.1
    refine ⟨?_, hb1.trans (hb2.mono hb1.size)⟩
    rw [HE.out]
    cases hf : firstTo (steps xs) n (2 ^ n) with
    | none => rw [hf] at hl; simp [firstL] at hl; simp [← hl]
    | some k => rw [hf] at hl; simp [firstL, btOfL_length] at hl; simp; omega
theorem impl_SortsAll_any (w : World) (n : Int) (ao : Option Addr) (len c : Nat) (xs : List Int) (ha : Flat 2 w w.heap.size ao len xs) :
    Calls Try.prog 29 #[.int .i64 n, .slice ao len c] w (RetBB (sortsAllF n xs) w) := by
  have hlen := Lib.hid ha.1
  cases hnet : isNetF n xs
  · go_enter Try.func29, Try.ntmps29
    go_wp2_with (go_at_call 27; refine (impl_IsNetwork_any _ _ _ _ _ _ ha).mono ?_; rintro e w1 ⟨rfl, hb1⟩; rw [hnet])
    go_ret2
    exact ⟨by simp [sortsAllF, hnet], hb1⟩
  · obtain ⟨f1, f2, f3, f4⟩ := isNet_facts hlen.out hnet
    obtain ⟨n, rfl⟩ := Int.eq_ofNat_of_zero_le (show 0 ≤ n by omega)
    have HF := Lib.hid f4
    have e : sortsAllF (n : Int) xs = ((firstTo (steps xs) n (2 ^ n)).isNone, true) := by unfold sortsAllF; rw [if_pos hnet]; rfl
    have HE := Lib.hid e
    clear f4 e
    go_enter Try.func29, Try.ntmps29
    go_wp2_with (first | (go_at_call 27; refine (impl_IsNetwork_any _ _ _ _ _ _ ha).mono ?_; rintro e w1 ⟨rfl, hb1⟩; rw [hnet]; have haB := (ha.below hb1 (Nat.le_refl _)).up hb1.size) | (go_at_call 77; refine (zeroOnes_any _ _ _ _ _ _ haB (by omega) HF.out).mono ?_; rintro e w2 ⟨b1, m1, c1, rfl, ho1, hb2⟩))
    go_ret2
    refine ⟨?_, hb1.trans (hb2.mono hb1.size)⟩
    rw [HE.out]
    cases firstTo (steps xs) n (2 ^ n) with
    | none => simp [firstN]
    | some k =>
      have hk : ¬ ((k : Int) < 0) := by omega
      simp [firstN, hk]
theorem spec_FirstUnsorted_any (w : World) (n : Int) (ao : Option Addr) (len c : Nat) (xs : List Int) (ha : Flat 2 w w.heap.size ao len xs) :
    Calls Try.prog 32 #[.int .i64 n, .slice ao len c] w (RetIB (firstUnsortedF n xs) w) := by
  have hlen := Lib.hid ha.1
  cases hnet : isNetF n xs
  · go_enter Try.func32, Try.ntmps32
    go_wp2_with (go_at_call 48; refine (soGood_any _ _ _ _ _ _ ha).mono ?_; rintro e w1 ⟨rfl, hb1⟩; rw [hnet])
    go_ret2
    exact ⟨none, 0, 0, by simp [firstUnsortedF, hnet], by simpa [firstUnsortedF, hnet] using OwnI.nil _ _ _, hb1⟩
  · obtain ⟨f1, f2, f3, f4⟩ := isNet_facts hlen.out hnet
    obtain ⟨n, rfl⟩ := Int.eq_ofNat_of_zero_le (show 0 ≤ n by omega)
    have HF := Lib.hid f4
    have e : firstUnsortedF (n : Int) xs = (firstL n (firstTo (steps xs) n (2 ^ n)), (firstTo (steps xs) n (2 ^ n)).isSome) := by unfold firstUnsortedF; rw [if_pos hnet]; rfl
    have HE := Lib.hid e
    clear f4 e
    go_enter Try.func32, Try.ntmps32
    go_wp2_with (first | (go_at_call 48; refine (soGood_any _ _ _ _ _ _ ha).mono ?_; rintro e w1 ⟨rfl, hb1⟩; rw [hnet]; have haB := (ha.below hb1 (Nat.le_refl _)).up hb1.size) | (go_at_call 78; refine (soFirst_any _ _ _ _ _ _ haB (by omega) (by omega) HF.out).mono ?_; rintro e w2 ⟨a1, n1, c1, rfl, ho1, hb2⟩))
    go_ret2
    have hl := ho1.1
    refine ⟨_, _, _, ?_, by rw [HE.out]; exact ho1.up hb1.size, hb1.trans (hb2.mono hb1.size)⟩
    rw [HE.out]
    cases hf : firstTo (steps xs) n (2 ^ n) with
    | none => rw [hf] at hl; simp [firstL] at hl; simp [← hl]
    | some k => rw [hf] at hl; simp [firstL, btOfL_length] at hl; simp; omega
theorem impl_FirstUnsorted_any (w : World) (n : Int) (ao : Option Addr) (len c : Nat) (xs : List Int) (ha : Flat 2 w w.heap.size ao len xs) :
    Calls Try.prog 31 #[.int .i64 n, .slice ao len c] w (RetIB (firstUnsortedF n xs) w) := by
  have hlen := Lib.hid ha.1
  cases hnet : isNetF n xs
  · go_enter Try.func31, Try.ntmps31
    go_wp2_with (go_at_call 27; refine (impl_IsNetwork_any _ _ _ _ _ _ ha).mono ?_; rintro e w1 ⟨rfl, hb1⟩; rw [hnet])
    go_ret2
    exact ⟨none, 0, 0, by simp [firstUnsortedF, hnet], by simpa [firstUnsortedF, hnet] using OwnI.nil _ _ _, hb1⟩
  · obtain ⟨f1, f2, f3, f4⟩ := isNet_facts hlen.out hnet
    obtain ⟨n, rfl⟩ := Int.eq_ofNat_of_zero_le (show 0 ≤ n by omega)
    have HF := Lib.hid f4
    have hq := pow_le12 (show n ≤ 12 by omega)
    have e : firstUnsortedF (n : Int) xs = (firstL n (firstTo (steps xs) n (2 ^ n)), (firstTo (steps xs) n (2 ^ n)).isSome) := by unfold firstUnsortedF; rw [if_pos hnet]; rfl
    have HE := Lib.hid e
    clear f4 e
    cases hf : firstTo (steps xs) n (2 ^ n) with
    | none =>
      rw [hf] at HE
      go_enter Try.func31, Try.ntmps31
      go_wp2_with (first | (go_at_call 27; refine (impl_IsNetwork_any _ _ _ _ _ _ ha).mono ?_; rintro e w1 ⟨rfl, hb1⟩; rw [hnet]; have haB := (ha.below hb1 (Nat.le_refl _)).up hb1.size) | (go_at_call 77; refine (zeroOnes_any _ _ _ _ _ _ haB (by omega) HF.out).mono ?_; rw [hf]; rintro e w2 ⟨b1, m1, c1, rfl, ho1, hb2⟩; rw [show firstN none = -1 from rfl]))
      go_ret2
      exact ⟨none, 0, 0, by rw [HE.out]; rfl, by rw [HE.out]; exact OwnI.nil _ _ _, hb1.trans (hb2.mono hb1.size)⟩
    | some k =>
      have hk : k < 2 ^ n := by
        have := List.mem_of_find?_eq_some hf
        simpa using this
      have hk2 : k ≤ 4096 := by omega
      have HK := Lib.hid hk
      rw [hf] at HE
      clear hk hq
      go_enter Try.func31, Try.ntmps31
      go_wp2_with (first | (go_at_call 27; refine (impl_IsNetwork_any _ _ _ _ _ _ ha).mono ?_; rintro e w1 ⟨rfl, hb1⟩; rw [hnet]; have haB := (ha.below hb1 (Nat.le_refl _)).up hb1.size) | (go_at_call 77; refine (zeroOnes_any _ _ _ _ _ _ haB (by omega) HF.out).mono ?_; rw [hf]; rintro e w2 ⟨b1, m1, c1, rfl, ho1, hb2⟩; rw [show firstN (some k) = (k : Int) from rfl]) | (go_at_call 79; refine (bitsOf_any _ _ _ (by omega) (by omega)).mono ?_; rintro e w3 ⟨a3, n3, c3, rfl, ho3, hb3⟩))
      go_ret2
      have hS := Nat.le_trans hb1.size hb2.size
      exact ⟨_, _, _, by rw [HE.out]; rfl, by rw [HE.out]; exact ho3.up hS, hb1.trans ((hb2.trans (hb3.mono hb2.size)).mono hb1.size)⟩

/-! ### NeedlessSteps, PruneNetwork -/
def marksF (n : Int) (xs : List Int) : List Bool := marksTo (steps xs) n.toNat (2 ^ n.toNat)
def needlessF (n : Int) (xs : List Int) : List Int × Bool := if isNetF n xs = true then (falseAt (marksF n xs) (xs.length / 2), true) else ([], false)
/-- The steps that are marked. -/
def trueAt (xs : List Int) (bs : List Bool) (k : Nat) : List Int := (List.range k).flatMap fun i => if bs.getD i false = true then [xs.getD (i * 2) 0, xs.getD (i * 2 + 1) 0] else []
theorem trueAt_yes {xs : List Int} {bs : List Bool} {k : Nat} {x y : Int} (h : bs[k]? = some true) (hx : xs[k * 2]? = some x) (hy : xs[k * 2 + 1]? = some y) : trueAt xs bs (k + 1) = trueAt xs bs k ++ [x, y] := by
  simp [trueAt, List.range_succ, List.getD, h, hx, hy]
theorem trueAt_no {xs : List Int} {bs : List Bool} {k : Nat} (h : bs[k]? = some false) : trueAt xs bs (k + 1) = trueAt xs bs k := by
  simp [trueAt, List.range_succ, List.getD, h]
def pruneF (n : Int) (xs : List Int) : List Int × Bool := if isNetF n xs = true then (trueAt xs (marksF n xs) (xs.length / 2), true) else ([], false)
theorem Flat.step2 {w : World} {B : Nat} {ao : Option Addr} {n : Nat} {xs : List Int} (h : Flat 2 w B ao n xs) {k : Nat} (hk : k < n) :
    ∃ b off x y, ao = some ⟨b, off, none⟩ ∧ b < B ∧ xs[k * 2]? = some x ∧ xs[k * 2 + 1]? = some y ∧ w.cell? ⟨b, off + k * 2, none⟩ = some (.int .i64 x) ∧ w.cell? ⟨b, off + k * 2 + 1, none⟩ = some (.int .i64 y) := by
  obtain ⟨b, off, rfl, hb, hat⟩ := h.at (by decide) hk
  obtain ⟨x, hx, hcx⟩ := hat 0 (by decide)
  obtain ⟨y, hy, hcy⟩ := hat 1 (by decide)
  exact ⟨b, off, x, y, rfl, hb, hx, hy, hcx, by rw [Nat.add_assoc]; exact hcy⟩
end Go.Proofs.Ytilkgidilhgjeaa
