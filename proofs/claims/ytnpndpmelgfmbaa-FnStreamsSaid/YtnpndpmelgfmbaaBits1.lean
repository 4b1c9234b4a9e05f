/-
  Chapter 1, the words of bits: numbers of bits, bits of numbers, weights, parities. Each pair of functions (reference, program) answers by one Lean function.
-/
import Derived.Test.YtnpndpmelgfmbaaAll
namespace Go.Proofs.Ytnpndpmelgfmbaa
open Go.RowKit

/-- The number of bits, the first the least. -/
def numL (xs : List Int) : Int := xs.foldr (fun b a => 2 * a + b) 0
theorem numL_cons (b : Int) (xs : List Int) : numL (b :: xs) = 2 * numL xs + b := rfl
theorem numL_append (xs : List Int) (b : Int) : numL (xs ++ [b]) = numL xs + 2 ^ xs.length * b := by
  induction xs with
  | nil => simp [numL]
  | cons x xs ih => rw [List.cons_append, numL_cons, ih, numL_cons, List.length_cons, Int.pow_succ]; rw [Int.mul_add, Int.mul_comm (2 ^ xs.length) 2, Int.mul_assoc]; omega
theorem numL_range (xs : List Int) (h : ∀ x ∈ xs, 0 ≤ x ∧ x ≤ 1) : 0 ≤ numL xs ∧ numL xs < 2 ^ xs.length := by
  induction xs with
  | nil => simp [numL]
  | cons x xs ih =>
    have hx := h x (by simp)
    have := ih fun y hy => h y (by simp [hy])
    rw [numL_cons, List.length_cons, Int.pow_succ]
    omega
theorem numL_drop {xs : List Int} {j : Nat} {x : Int} (hx : xs[j]? = some x) : numL (xs.drop j) = 2 * numL (xs.drop (j + 1)) + x := by
  have hj : j < xs.length := (List.getElem?_eq_some_iff.1 hx).1
  rw [List.drop_eq_getElem_cons hj, numL_cons]
  have : xs[j] = x := by rw [List.getElem?_eq_getElem hj] at hx; simpa using hx
  rw [this]
theorem pow_le_16 {n : Nat} (h : n ≤ 16) : (2 : Int) ^ n ≤ 65536 := by
  have := Nat.pow_le_pow_right (n := 2) (by decide) h
  have h2 : ((2 ^ n : Nat) : Int) ≤ ((2 ^ 16 : Nat) : Int) := by exact_mod_cast this
  simpa using h2
theorem numL_small {xs : List Int} {n : Nat} (hl : xs.length = n) (hn : n ≤ 16) (h : allIn 0 1 xs = true) (j : Nat) : 0 ≤ numL (xs.drop j) ∧ numL (xs.drop j) ≤ 65535 := by
  have h1 := numL_range (xs.drop j) fun x hx => allIn_iff.1 h x (List.mem_of_mem_drop hx)
  have h2 := pow_le_16 (n := (xs.drop j).length) (by simp; omega)
  omega
theorem numL_small_take {xs : List Int} {n : Nat} (hl : xs.length = n) (hn : n ≤ 16) (h : allIn 0 1 xs = true) (j : Nat) : 0 ≤ numL (xs.take j) ∧ numL (xs.take j) ≤ 65535 := by
  have h1 := numL_range (xs.take j) fun x hx => allIn_iff.1 h x (List.mem_of_mem_take hx)
  have h2 := pow_le_16 (n := (xs.take j).length) (by simp; omega)
  omega

/-- Bits, so many at most. -/
def goodB (xs : List Int) (most : Int) : Bool := decide ((xs.length : Int) ≤ most) && allIn 0 1 xs

theorem isBit_any (n : Int) (w : World) : Calls Try.prog 102 #[.int .i64 n] w fun e w' => e = .returned (.bool (inB n 0 1)) ∧ w = w' := by
  by_cases h0 : n = 0
  · subst h0
    go_enter Try.func102, Try.ntmps102
    go_wp2
    go_ret
    exact ⟨ret_bool (by simp [inB]), rfl⟩
  · have h1 : (n == 0) = false := by simpa using h0
    go_enter Try.func102, Try.ntmps102
    go_wp2
    go_ret
    exact ⟨ret_bool (by rw [Bool.eq_iff_iff, inB_iff]; simp; omega), rfl⟩
theorem pred_isBit (w : World) (xs : List Int) : Pred 102 #[] w (fun x => inB x 0 1) xs :=
  ⟨fun args W => by kernel_rfl, fun x _ W _ => (isBit_any x W).mono fun _ _ ⟨h1, h2⟩ => ⟨h1, by rw [h2]; exact Below.refl _ _⟩⟩
theorem impl_AreBits_any (w : World) (ao : Option Addr) (n c : Nat) (xs : List Int) (ha : Ints w w.heap.size ao n xs) :
    Calls Try.prog 24 #[.slice ao n c] w (RetB (goodB xs 64) w) := by
  have hn := ha.le
  have hl := Lib.hid ha.1
  by_cases h : n ≤ 64
  · go_enter Try.func24, Try.ntmps24
    go_wp2_with (go_at_call 101; refine (areAll_any _ _ _ _ _ _ _ _ ha (pred_isBit _ _)).mono ?_; rintro e w' ⟨rfl, hb⟩)
    go_ret
    exact ⟨ret_bool (by have : decide ((n : Int) ≤ 64) = true := by simp; omega
                        simp only [goodB, hl.out, this, allIn, Bool.true_and]), hb⟩
  · have h' : decide ((n : Int) ≤ 64) = false := by simp only [decide_eq_false_iff_not]; omega
    go_enter Try.func24, Try.ntmps24
    go_wp2_with fail
    go_ret
    exact ⟨ret_bool (by simp [goodB, hl.out]; omega), Below.refl _ _⟩

theorem btGood_any (w : World) (B : Nat) (ao : Option Addr) (n c : Nat) (xs : List Int) (most : Int) (ha : Ints w B ao n xs) :
    Calls Try.prog 99 #[.slice ao n c, .int .i64 most] w fun e w' => e = .returned (.bool (goodB xs most)) ∧ w = w' := by
  have hn := ha.le
  have hl := Lib.hid ha.1
  by_cases h : (n : Int) ≤ most
  · go_enter Try.func99, Try.ntmps99
    go_wp2_with (go_at_call 144; refine (l1All_any _ _ _ _ _ _ _ _ ha).mono ?_; rintro e w' ⟨rfl, rfl⟩)
    go_ret
    exact ⟨ret_bool (by simp [goodB, hl.out, h]), rfl⟩
  · have h' : decide ((n : Int) ≤ most) = false := by simpa using h
    go_enter Try.func99, Try.ntmps99
    go_wp2_with fail
    go_ret
    exact ⟨ret_bool (by simp [goodB, hl.out]; omega), rfl⟩
theorem spec_AreBits_any (w : World) (B : Nat) (ao : Option Addr) (n c : Nat) (xs : List Int) (ha : Ints w B ao n xs) :
    Calls Try.prog 25 #[.slice ao n c] w fun e w' => e = .returned (.bool (goodB xs 64)) ∧ w = w' := by
  have hn := ha.le
  go_enter Try.func25, Try.ntmps25
  go_wp2_with (go_at_call 99; refine (btGood_any _ _ _ _ _ _ _ ha).mono ?_; rintro e w' ⟨rfl, rfl⟩)
  go_ret
  exact ⟨rfl, rfl⟩

theorem btNum_any (w : World) (B : Nat) (ao : Option Addr) (n c : Nat) (xs : List Int) (ha : Ints w B ao n xs) (hn : n ≤ 16) (hb : allIn 0 1 xs = true) :
    Calls Try.prog 100 #[.slice ao n c] w fun e w' => e = .returned (.int .i64 (numL xs)) ∧ w = w' := by
  have hl := Lib.hid ha.1
  have HB := Lib.hid hb
  clear hb
  go_enter Try.func100, Try.ntmps100
  go_wp2
  go_loop [3, 4] (fun a i => ∃ iv : Int, -1 ≤ iv ∧ iv < n ∧ i = .int .i64 iv ∧ a = .int .i64 (numL (xs.drop (iv + 1).toNat))) (fun _ i => (intOf i + 1).toNat)
  case atStart => exact ⟨_, by omega, by omega, rfl, by rw [show ((n : Int) - 1 + 1).toNat = n from by omega, List.drop_of_length_le (by rw [hl.out]; exact Nat.le_refl _)]; rfl⟩
  case round =>
    obtain ⟨iv, h1, h2, rfl, rfl⟩ := hrel
    by_cases hlt : 0 ≤ iv
    · obtain ⟨j, rfl⟩ := Int.eq_ofNat_of_zero_le hlt
      obtain ⟨b1, o1, x, rfl, hb1, hx, hc1⟩ := ha.at (show j < n by omega)
      have hd := numL_drop hx
      have hs := numL_small hl.out hn HB.out (j + 1)
      have hxb := allIn_iff.1 HB.out x (List.mem_of_getElem? hx)
      rw [show ((j : Int) + 1).toNat = j + 1 from by omega]
      obtain ⟨q, hq⟩ : ∃ q, q = numL (xs.drop (j + 1)) := ⟨_, rfl⟩
      rw [← hq] at hd hs ⊢
      have HD := Lib.hid hd
      clear hx hd hq
      go_wp2
      go_round
      case rel => exact ⟨(j : Int) - 1, by omega, by omega, rfl, by rw [show ((j : Int) - 1 + 1).toNat = j from by omega, HD.out]⟩
      case measure => simp [intOf] <;> omega
    · obtain rfl : iv = -1 := by omega
      go_wp2
      go_ret
      exact ⟨rfl, rfl⟩
theorem or_step {xs : List Int} {n k : Nat} {x : Int} (hl : xs.length = n) (hn : n ≤ 16) (hb : allIn 0 1 xs = true) (hx : xs[k]? = some x) :
    bits .or .i64 (numL (xs.take k)) (wrap64 (x * 2 ^ k)) = numL (xs.take (k + 1)) := by
  have hk : k < xs.length := (List.getElem?_eq_some_iff.1 hx).1
  have hr := numL_range (xs.take k) fun y hy => allIn_iff.1 hb y (List.mem_of_mem_take hy)
  have hlk : (xs.take k).length = k := by simp; omega
  rw [hlk] at hr
  have hxb := allIn_iff.1 hb x (List.mem_of_getElem? hx)
  rw [List.take_add_one, hx, show (some x).toList = [x] from rfl, numL_append, hlk]
  obtain ⟨q, hq⟩ := Int.eq_ofNat_of_zero_le hr.1
  obtain ⟨y, rfl⟩ := Int.eq_ofNat_of_zero_le hxb.1
  rw [hq] at hr ⊢
  have hp : (2 : Int) ^ k = ((2 ^ k : Nat) : Int) := by simp
  rw [hp] at hr ⊢
  have hqk : q < 2 ^ k := by omega
  have hk16 : 2 ^ k ≤ 2 ^ 15 := Nat.pow_le_pow_right (by decide) (by omega)
  have hy : y ≤ 1 := by omega
  have hyk : y * 2 ^ k ≤ 2 ^ 15 := by
    rcases (show y = 0 ∨ y = 1 by omega) with rfl | rfl <;> omega
  rw [← Int.natCast_mul, IntWalk.wrap64_in _ ⟨by omega, by omega⟩, i64_or_nat _ _ (by omega) (by omega), Nat.or_comm, nat_join k (y * 2 ^ k) q (Nat.mul_mod_left _ _) hqk, ← Int.natCast_mul, Nat.mul_comm (2 ^ k) y]
  omega
theorem number_any (w : World) (B : Nat) (ao : Option Addr) (n c : Nat) (xs : List Int) (ha : Ints w B ao n xs) (hn : n ≤ 16) (hb : allIn 0 1 xs = true) :
    Calls Try.prog 98 #[.slice ao n c] w fun e w' => e = .returned (.int .i64 (numL xs)) ∧ w = w' := by
  have hl := Lib.hid ha.1
  have HB := Lib.hid hb
  clear hb
  go_enter Try.func98, Try.ntmps98
  go_wp2
  go_loop [3, 8] (fun a i => ∃ k : Nat, k ≤ n ∧ i = .int .i64 k ∧ a = .int .i64 (numL (xs.take k))) (fun _ i => n - (intOf i).toNat)
  case atStart => exact ⟨0, Nat.zero_le _, rfl, rfl⟩
  case round =>
    obtain ⟨k, hk, rfl, rfl⟩ := hrel
    by_cases hlt : k < n
    · obtain ⟨b1, o1, x, rfl, hb1, hx, hc1⟩ := ha.at hlt
      have hs := numL_small_take hl.out hn HB.out k
      have hxb := allIn_iff.1 HB.out x (List.mem_of_getElem? hx)
      have ho := or_step hl.out hn HB.out hx
      obtain ⟨q, hq⟩ : ∃ q, q = numL (xs.take k) := ⟨_, rfl⟩
      rw [← hq] at hs ho ⊢
      have HO := Lib.hid ho
      clear hx hq ho
      go_wp2
      go_round
      case rel => exact ⟨k + 1, by omega, by go_num, by rw [HO.out]⟩
      case measure => simp [intOf] <;> omega
    · obtain rfl : k = n := by omega
      go_wp2
      go_ret
      exact ⟨ret_int (by rw [List.take_of_length_le (by rw [hl.out]; exact Nat.le_refl _)]), rfl⟩

/-- What NumberOf answers. -/
def numberOfF (xs : List Int) : Int × Bool := if goodB xs 16 = true then (numL xs, true) else (0, false)
theorem goodB_iff {xs : List Int} {m : Int} : goodB xs m = true ↔ (xs.length : Int) ≤ m ∧ allIn 0 1 xs = true := by simp [goodB]
theorem spec_NumberOf_any (w : World) (B : Nat) (ao : Option Addr) (n c : Nat) (xs : List Int) (ha : Ints w B ao n xs) :
    Calls Try.prog 23 #[.slice ao n c] w (RetNB (numberOfF xs) w) := by
  have hn := ha.le
  have hl := Lib.hid ha.1
  cases hg : goodB xs 16
  · go_enter Try.func23, Try.ntmps23
    go_wp2_with (go_at_call 99; refine (btGood_any _ _ _ _ _ _ _ ha).mono ?_; rintro e w' ⟨rfl, rfl⟩)
    go_ret2
    exact ⟨by simp [numberOfF, hg], Below.refl _ _⟩
  · have h16 := goodB_iff.1 hg
    rw [hl.out] at h16
    have H16 := Lib.hid h16
    clear h16
    go_enter Try.func23, Try.ntmps23
    go_wp2_with (first | (go_at_call 99; refine (btGood_any _ _ _ _ _ _ _ ha).mono ?_; rintro e w' ⟨rfl, rfl⟩) | (go_at_call 100; refine (btNum_any _ _ _ _ _ _ ha (by have := H16.out.1; omega) H16.out.2).mono ?_; rintro e w' ⟨rfl, rfl⟩))
    go_ret2
    exact ⟨by simp [numberOfF, hg], Below.refl _ _⟩
theorem impl_NumberOf_any (w : World) (ao : Option Addr) (n c : Nat) (xs : List Int) (ha : Ints w w.heap.size ao n xs) :
    Calls Try.prog 22 #[.slice ao n c] w (RetNB (numberOfF xs) w) := by
  have hn := ha.le
  have hl := Lib.hid ha.1
  cases hg : goodB xs 64
  · have hg' : goodB xs 16 = false := by
      cases h : goodB xs 16
      · rfl
      · have := goodB_iff.1 h
        rw [goodB_iff.2 ⟨by omega, this.2⟩] at hg; cases hg
    go_enter Try.func22, Try.ntmps22
    go_wp2_with (go_at_call 24; refine (impl_AreBits_any _ _ _ _ _ ha).mono ?_; rintro e w' ⟨rfl, hb⟩)
    go_ret2
    exact ⟨by simp [numberOfF, hg'], hb⟩
  · by_cases h16 : n ≤ 16
    · have h2 := goodB_iff.1 hg
      have hg' : goodB xs 16 = true := goodB_iff.2 ⟨by rw [hl.out]; omega, h2.2⟩
      have H2 := Lib.hid h2.2
      clear h2
      go_enter Try.func22, Try.ntmps22
      go_wp2_with (first | (go_at_call 24; refine (impl_AreBits_any _ _ _ _ _ ha).mono ?_; rintro e w' ⟨rfl, hb⟩; have ha' := ha.below hb (Nat.le_refl _)) | (go_at_call 98; refine (number_any _ _ _ _ _ _ ha' h16 H2.out).mono ?_; rintro e w' ⟨rfl, rfl⟩))
      go_ret2
      exact ⟨by simp [numberOfF, hg'], hb⟩
    · have h2 := goodB_iff.1 hg
      have hg' : goodB xs 16 = false := by
        cases h : goodB xs 16
        · rfl
        · have := goodB_iff.1 h
          rw [hl.out] at this; omega
      clear h2
      go_enter Try.func22, Try.ntmps22
      go_wp2_with (go_at_call 24; refine (impl_AreBits_any _ _ _ _ _ ha).mono ?_; rintro e w' ⟨rfl, hb⟩)
      go_ret2
      exact ⟨by simp [numberOfF, hg'], hb⟩
end Go.Proofs.Ytnpndpmelgfmbaa
