/-
  Values of polynomials; streams; orders from words.
-/
import Derived.Test.YthknkljekmffmaaTurn
namespace Go.Proofs.Ythknkljekmffmaa
open Go.RowKit

/-! ### Values of polynomials -/
def evalL (p x : Int) (xs : List Int) : Int := xs.foldr (fun c a => (a * x + c) % p) 0
theorem evalL_drop {p x : Int} {xs : List Int} {j : Nat} {c : Int} (hx : xs[j]? = some c) : evalL p x (xs.drop j) = (evalL p x (xs.drop (j + 1)) * x + c) % p := by
  have hj : j < xs.length := (List.getElem?_eq_some_iff.1 hx).1
  rw [List.drop_eq_getElem_cons hj]
  have : xs[j] = c := by rw [List.getElem?_eq_getElem hj] at hx; simpa using hx
  rw [this]; rfl
theorem evalL_bd {p x : Int} (hp : 0 < p) (xs : List Int) : 0 ≤ evalL p x xs ∧ evalL p x xs < p := by
  cases xs with
  | nil => exact ⟨Int.le_refl _, hp⟩
  | cons c cs => exact ⟨Int.emod_nonneg _ (by omega), Int.emod_lt_of_pos _ hp⟩
theorem ax_bd {p a x : Int} (hp : p ≤ 251) (ha : 0 ≤ a ∧ a < p) (hx : 0 ≤ x ∧ x ≤ p - 1) : 0 ≤ a * x ∧ a * x ≤ 63001 := by
  constructor
  · exact Int.mul_nonneg ha.1 hx.1
  · have := Int.mul_le_mul (show a ≤ 251 by omega) (show x ≤ 251 by omega) hx.1 (by decide)
    omega
theorem fpEval_any (w : World) (B : Nat) (p x : Int) (ao : Option Addr) (n c : Nat) (xs : List Int) (ha : Ints w B ao n xs) (hp : 2 ≤ p) (hp2 : p ≤ 251) (hx : 0 ≤ x ∧ x ≤ p - 1) (hxs : allIn 0 (p - 1) xs = true) :
    Calls Try.prog 52 #[.int .i64 p, .slice ao n c, .int .i64 x] w fun e w' => e = .returned (.int .i64 (evalL p x xs)) ∧ w = w' := by
  have hl := Lib.hid ha.1
  have hn := ha.le
  have HB := Lib.hid hxs
  clear hxs
  go_enter Try.func52, Try.ntmps52
  go_wp2_with fail
  go_loop [7, 8] (fun a i => ∃ iv : Int, -1 ≤ iv ∧ iv < n ∧ i = .int .i64 iv ∧ a = .int .i64 (evalL p x (xs.drop (iv + 1).toNat))) (fun _ i => (intOf i + 1).toNat)
  case atStart => exact ⟨_, by omega, by omega, rfl, by rw [show ((n : Int) - 1 + 1).toNat = n from by omega, List.drop_of_length_le (by rw [hl.out]; exact Nat.le_refl _)]; rfl⟩
  case round =>
    obtain ⟨iv, h1, h2, rfl, rfl⟩ := hrel
    by_cases hlt : 0 ≤ iv
    · obtain ⟨j, rfl⟩ := Int.eq_ofNat_of_zero_le hlt
      obtain ⟨b1, o1, y, rfl, hb1, hy, hc1⟩ := ha.at (show j < n by omega)
      have HD := Lib.hid (evalL_drop (p := p) (x := x) hy)
      have hs := evalL_bd (p := p) (x := x) (by omega) (xs.drop (j + 1))
      have hyb := allIn_iff.1 HB.out y (List.mem_of_getElem? hy)
      rw [show ((j : Int) + 1).toNat = j + 1 from by omega]
      obtain ⟨q, hq⟩ : ∃ q, q = evalL p x (xs.drop (j + 1)) := ⟨_, rfl⟩
      rw [← hq] at hs ⊢
      have hqx := ax_bd hp2 hs hx
      have HQ := Lib.hid hq
      clear hy hq
      go_wp2_with fail
      go_round
      case rel => exact ⟨(j : Int) - 1, by omega, by omega, rfl, by rw [show ((j : Int) - 1 + 1).toNat = j from by omega, HD.out, ← HQ.out]⟩
      case measure => simp [intOf] <;> omega
    · obtain rfl : iv = -1 := by omega
      go_wp2_with fail
      go_ret
      exact ⟨rfl, rfl⟩
theorem evalPoly_any (w : World) (B : Nat) (p x : Int) (ao : Option Addr) (n c : Nat) (xs : List Int) (ha : Ints w B ao n xs) (hp : 2 ≤ p) (hp2 : p ≤ 251) (hx : 0 ≤ x ∧ x ≤ p - 1) (hxs : allIn 0 (p - 1) xs = true) :
    Calls Try.prog 55 #[.int .i64 p, .slice ao n c, .int .i64 x] w fun e w' => e = .returned (.int .i64 (evalL p x xs)) ∧ w = w' := by
  have hl := Lib.hid ha.1
  have hn := ha.le
  have HB := Lib.hid hxs
  clear hxs
  go_enter Try.func55, Try.ntmps55
  go_wp2_with fail
  go_loop [7, 8] (fun a i => ∃ iv : Int, -1 ≤ iv ∧ iv < n ∧ i = .int .i64 iv ∧ a = .int .i64 (evalL p x (xs.drop (iv + 1).toNat))) (fun _ i => (intOf i + 1).toNat)
  case atStart => exact ⟨_, by omega, by omega, rfl, by rw [show ((n : Int) - 1 + 1).toNat = n from by omega, List.drop_of_length_le (by rw [hl.out]; exact Nat.le_refl _)]; rfl⟩
  case round =>
    obtain ⟨iv, h1, h2, rfl, rfl⟩ := hrel
    by_cases hlt : 0 ≤ iv
    · obtain ⟨j, rfl⟩ := Int.eq_ofNat_of_zero_le hlt
      obtain ⟨b1, o1, y, rfl, hb1, hy, hc1⟩ := ha.at (show j < n by omega)
      have HD := Lib.hid (evalL_drop (p := p) (x := x) hy)
      have hs := evalL_bd (p := p) (x := x) (by omega) (xs.drop (j + 1))
      have hyb := allIn_iff.1 HB.out y (List.mem_of_getElem? hy)
      rw [show ((j : Int) + 1).toNat = j + 1 from by omega]
      obtain ⟨q, hq⟩ : ∃ q, q = evalL p x (xs.drop (j + 1)) := ⟨_, rfl⟩
      rw [← hq] at hs ⊢
      have hqx := ax_bd hp2 hs hx
      have HQ := Lib.hid hq
      clear hy hq
      go_wp2_with fail
      go_round
      case rel => exact ⟨(j : Int) - 1, by omega, by omega, rfl, by rw [show ((j : Int) - 1 + 1).toNat = j from by omega, HD.out, ← HQ.out]⟩
      case measure => simp [intOf] <;> omega
    · obtain rfl : iv = -1 := by omega
      go_wp2_with fail
      go_ret
      exact ⟨rfl, rfl⟩
def evalPolyF (p : Int) (xs : List Int) (x : Int) : Int × Bool := if (elemB p x && allIn 0 (p - 1) xs && decide (xs.length ≤ 12)) = true then (evalL p x xs, true) else (0, false)
theorem ints_new_any (w w' : World) (x : Int) (hb : w' = w.alloc (.cells #[.int .i64 x] 3)) : Ints w' (w.heap.size + 1) (some ⟨w.heap.size, 0, none⟩) 1 [x] := by
  subst hb; exact ints_new w [x] (by simp)
theorem spec_EvalPoly_any (w : World) (p : Int) (ao : Option Addr) (n c : Nat) (xs : List Int) (x : Int) (ha : Ints w w.heap.size ao n xs) :
    Calls Try.prog 22 #[.int .i64 p, .slice ao n c, .int .i64 x] w (RetNB (evalPolyF p xs x) w) := by
  have hl := Lib.hid ha.1
  have hb0 : Below w.heap.size w (w.alloc (.cells #[.int .i64 x] 3)) := (Below.refl _ _).alloc (Nat.le_refl _) _
  have ha0 := Lib.hid (ha.below hb0 (Nat.le_refl _))
  cases h : elemB p x
  · go_enter Try.func22, Try.ntmps22
    go_wp2_with (go_at_call 50; refine (fpIn_any _ _ _ _ _ _ _ (ints_new w [x] (by simp))).mono ?_; rintro e w' ⟨rfl, rfl⟩; rw [elems1])
    go_ret2
    exact ⟨by simp [evalPolyF, h], hb0⟩
  have hpx := elemB_bd h
  cases h2 : allIn 0 (p - 1) xs
  · go_enter Try.func22, Try.ntmps22
    go_wp2_with (first | (go_at_call 50; refine (fpIn_any _ _ _ _ _ _ _ (ints_new w [x] (by simp))).mono ?_; rintro e w' ⟨rfl, rfl⟩; rw [elems1]) | (go_at_call 51; refine (l1All_any _ _ _ _ _ _ _ _ ha0.out).mono ?_; rintro e w' ⟨rfl, rfl⟩))
    go_ret2
    exact ⟨by simp [evalPolyF, h2], hb0⟩
  have H2 := Lib.hid h2
  by_cases h3 : n ≤ 12
  · go_enter Try.func22, Try.ntmps22
    go_wp2_with (first | (go_at_call 50; refine (fpIn_any _ _ _ _ _ _ _ (ints_new w [x] (by simp))).mono ?_; rintro e w' ⟨rfl, rfl⟩; rw [elems1]) | (go_at_call 51; refine (l1All_any _ _ _ _ _ _ _ _ ha0.out).mono ?_; rintro e w' ⟨rfl, rfl⟩) | (go_at_call 52; refine (fpEval_any _ _ _ _ _ _ _ _ ha0.out hpx.1 hpx.2.1 hpx.2.2 H2.out).mono ?_; rintro e w' ⟨rfl, rfl⟩))
    go_ret2
    exact ⟨by simp [evalPolyF, h, h2, hl.out, h3], hb0⟩
  · have h3' : (12 : Int) < n := by omega
    go_enter Try.func22, Try.ntmps22
    go_wp2_with (first | (go_at_call 50; refine (fpIn_any _ _ _ _ _ _ _ (ints_new w [x] (by simp))).mono ?_; rintro e w' ⟨rfl, rfl⟩; rw [elems1]) | (go_at_call 51; refine (l1All_any _ _ _ _ _ _ _ _ ha0.out).mono ?_; rintro e w' ⟨rfl, rfl⟩))
    go_ret2
    exact ⟨by simp [evalPolyF, hl.out, h3], hb0⟩
/-- The closure within areElements: it captured the box of p. -/
theorem areElements1_any (W : World) (b : Nat) (x p : Int) (hbox : W.cell? ⟨b, 0, none⟩ = some (.int .i64 p)) (hp : 2 ≤ p) (hp2 : p ≤ 251) :
    Calls Try.prog 77 #[.int .i64 x, .pointer (some ⟨b, 0, none⟩)] W fun e W' => e = .returned (.bool (inB x 0 (p - 1))) ∧ W = W' := by
  go_enter Try.func77, Try.ntmps77
  go_wp2_with (go_at_call 48; refine (within_any _ _ _ _).mono ?_; rintro e w' ⟨rfl, rfl⟩)
  go_ret
  exact ⟨rfl, rfl⟩
theorem areElements_any (w : World) (p : Int) (ao : Option Addr) (n c : Nat) (xs : List Int) (ha : Ints w w.heap.size ao n xs) :
    Calls Try.prog 54 #[.int .i64 p, .slice ao n c] w (RetB (primeB p && allIn 0 (p - 1) xs) w) := by
  have hb0 : Below w.heap.size w (w.alloc (.cells #[.int .i64 p] 3)) := (Below.refl _ _).alloc (Nat.le_refl _) _
  have HA := Lib.hid ((ha.below hb0 (Nat.le_refl _)).up hb0.size)
  cases hp : primeB p
  · go_enter Try.func54, Try.ntmps54
    go_wp2_with (go_at_call 76; refine (impl_IsPrime_any _ _).mono ?_; rintro e w' ⟨rfl, rfl⟩)
    go_ret
    exact ⟨ret_bool (by simp), hb0⟩
  · have hb : 2 ≤ p ∧ p ≤ 251 := by
      have h := hp
      simp only [primeB, Bool.and_eq_true] at h
      exact inB_iff.1 h.1
    have HP : Pred 77 #[.pointer (some ⟨w.heap.size, 0, none⟩)] (w.alloc (.cells #[.int .i64 p] 3)) (fun x => inB x 0 (p - 1)) xs := by
      refine ⟨fun args W => by kernel_rfl, fun x hx W hW => ?_⟩
      refine (areElements1_any W w.heap.size x p ?_ hb.1 hb.2).mono fun _ _ ⟨h1, h2⟩ => ⟨h1, by rw [h2]; exact Below.refl _ _⟩
      rw [hW.cell (p := ⟨w.heap.size, 0, none⟩) (by simp)]
      exact cell_new _ _ _
    have HH := Lib.hid HP
    clear HP
    go_enter Try.func54, Try.ntmps54
    go_wp2_with (first | (go_at_call 76; refine (impl_IsPrime_any _ _).mono ?_; rintro e w' ⟨rfl, rfl⟩) | (go_at_call 72; refine (areAll_any _ _ _ _ _ _ _ _ HA.out HH.out).mono ?_; rintro e w1 ⟨rfl, hb1⟩))
    go_ret
    exact ⟨ret_bool (by simp [allIn]), hb0.trans (hb1.mono hb0.size)⟩
theorem elemB_prime {p x : Int} (h : elemB p x = true) : primeB p = true := by
  simp only [elemB, Bool.and_eq_true] at h; exact h.1
theorem impl_EvalPoly_any (w : World) (p : Int) (ao : Option Addr) (n c : Nat) (xs : List Int) (x : Int) (ha : Ints w w.heap.size ao n xs) :
    Calls Try.prog 23 #[.int .i64 p, .slice ao n c, .int .i64 x] w (RetNB (evalPolyF p xs x) w) := by
  have hl := Lib.hid ha.1
  cases h : elemB p x
  · go_enter Try.func23, Try.ntmps23
    go_wp2_with (go_at_call 53; refine (isElement_any _ _ _).mono ?_; rintro e w' ⟨rfl, rfl⟩)
    go_ret2
    exact ⟨by simp [evalPolyF, h], Below.refl _ _⟩
  have hpx := elemB_bd h
  have hpr := Lib.hid (elemB_prime h)
  cases h2 : allIn 0 (p - 1) xs
  · go_enter Try.func23, Try.ntmps23
    go_wp2_with (first | (go_at_call 53; refine (isElement_any _ _ _).mono ?_; rintro e w' ⟨rfl, rfl⟩) | (go_at_call 54; refine (areElements_any _ _ _ _ _ _ ha).mono ?_; rintro e w1 ⟨rfl, hb1⟩; rw [hpr.out, h2]))
    go_ret2
    exact ⟨by simp [evalPolyF, h2], hb1⟩
  have H2 := Lib.hid h2
  by_cases h3 : n ≤ 12
  · go_enter Try.func23, Try.ntmps23
    go_wp2_with (first | (go_at_call 53; refine (isElement_any _ _ _).mono ?_; rintro e w' ⟨rfl, rfl⟩) | (go_at_call 54; refine (areElements_any _ _ _ _ _ _ ha).mono ?_; rintro e w1 ⟨rfl, hb1⟩; rw [hpr.out, H2.out]; have ha1 := ha.below hb1 (Nat.le_refl _)) | (go_at_call 55; refine (evalPoly_any _ _ _ _ _ _ _ _ ha1 hpx.1 hpx.2.1 hpx.2.2 H2.out).mono ?_; rintro e w' ⟨rfl, rfl⟩))
    go_ret2
    exact ⟨by simp [evalPolyF, h, h2, hl.out, h3], hb1⟩
  · have h3' : (12 : Int) < n := by omega
    go_enter Try.func23, Try.ntmps23
    go_wp2_with (first | (go_at_call 53; refine (isElement_any _ _ _).mono ?_; rintro e w' ⟨rfl, rfl⟩) | (go_at_call 54; refine (areElements_any _ _ _ _ _ _ ha).mono ?_; rintro e w1 ⟨rfl, hb1⟩; rw [hpr.out, H2.out]))
    go_ret2
    exact ⟨by simp [evalPolyF, hl.out, h3], hb1⟩

/-! ### Streams -/
def streamF (key xs : List Int) : List Int × Bool := if (wordsB key 10 && goodB xs 64) = true then (xorL xs (bitsL key xs.length), true) else ([], false)
theorem spec_StreamXor_any (w : World) (ao bo : Option Addr) (n m c d : Nat) (key xs : List Int) (ha : Ints w w.heap.size ao n key) (hb : Ints w w.heap.size bo m xs) :
    Calls Try.prog 30 #[.slice ao n c, .slice bo m d] w (RetIB (streamF key xs) w) := by
  have hl := Lib.hid ha.1
  have hl2 := Lib.hid hb.1
  cases hg : wordsB key 10
  · go_enter Try.func30, Try.ntmps30
    go_wp2_with (go_at_call 45; refine (dgShort_any _ _ _ _ _ _ ha).mono ?_; rintro e w' ⟨rfl, rfl⟩)
    go_ret2
    exact ⟨none, 0, 0, by simp [streamF, hg], by simpa [streamF, hg] using OwnI.nil _ _ _, Below.refl _ _⟩
  cases hg2 : goodB xs 64
  · go_enter Try.func30, Try.ntmps30
    go_wp2_with (first | (go_at_call 45; refine (dgShort_any _ _ _ _ _ _ ha).mono ?_; rintro e w' ⟨rfl, rfl⟩) | (go_at_call 60; refine (spec_AreBits_any _ _ _ _ _ _ hb).mono ?_; rintro e w' ⟨rfl, rfl⟩))
    go_ret2
    exact ⟨none, 0, 0, by simp [streamF, hg2], by simpa [streamF, hg2] using OwnI.nil _ _ _, Below.refl _ _⟩
  · have h2 := wordsB_iff.1 hg
    have h3 := goodB_iff.1 hg2
    rw [hl.out] at h2
    rw [hl2.out] at h3
    have hn10 : n ≤ 10 := by omega
    have hm64 : m ≤ 64 := by omega
    have H2 := Lib.hid h2
    have H3 := Lib.hid h3
    clear h2 h3
    go_enter Try.func30, Try.ntmps30
    go_wp2_with (first | (go_at_call 45; refine (dgShort_any _ _ _ _ _ _ ha).mono ?_; rintro e w' ⟨rfl, rfl⟩) | (go_at_call 60; refine (spec_AreBits_any _ _ _ _ _ _ hb).mono ?_; rintro e w' ⟨rfl, rfl⟩))
    refine (dgBits_any _ _ _ _ _ _ ha hn10 H2.out.2 hm64).mono ?_
    rintro e w1 ⟨a1, n1, c1, rfl, ho1, hb1⟩
    have hn1 : n1 = m := by rw [← ho1.1, bitsL_length]
    subst hn1
    go_wp2_with fail
    refine (btXor_any _ _ _ _ _ _ _ _ ((hb.below hb1 (Nat.le_refl _)).up hb1.size) ho1.ints hm64 H3.out.2 (bitsL_bits _ _)).mono ?_
    rintro e w2 ⟨a2, n2, c2, rfl, ho2, hb2⟩
    go_wp2_with fail
    go_ret2
    exact ⟨a2, n2, c2, by simp [streamF, hg, hg2], by simpa [streamF, hg, hg2, hl2.out] using ho2.up hb1.size, hb1.trans (hb2.mono hb1.size)⟩
theorem stream_xor {key xs : List Int} (hg2 : goodB xs 64 = true) : xorBitsF xs (bitsL key xs.length) = (xorL xs (bitsL key xs.length), true) := by
  have hb : goodB (bitsL key xs.length) 64 = true := goodB_iff.2 ⟨by rw [bitsL_length]; exact (goodB_iff.1 hg2).1, bitsL_bits _ _⟩
  simp [xorBitsF, hg2, hb, bitsL_length]
theorem impl_StreamXor_any (w : World) (ao bo : Option Addr) (n m c d : Nat) (key xs : List Int) (ha : Ints w w.heap.size ao n key) (hb : Ints w w.heap.size bo m xs) :
    Calls Try.prog 31 #[.slice ao n c, .slice bo m d] w (RetIB (streamF key xs) w) := by
  have hl := Lib.hid ha.1
  have hl2 := Lib.hid hb.1
  cases hg : wordsB key 10
  · go_enter Try.func31, Try.ntmps31
    go_wp2_with (go_at_call 43; refine (areWords_any _ _ _ _ _ _ ha).mono ?_; rintro e w1 ⟨rfl, hb1⟩)
    go_ret2
    exact ⟨none, 0, 0, by simp [streamF, hg], by simpa [streamF, hg] using OwnI.nil _ _ _, hb1⟩
  cases hg2 : goodB xs 64
  · go_enter Try.func31, Try.ntmps31
    go_wp2_with (first | (go_at_call 43; refine (areWords_any _ _ _ _ _ _ ha).mono ?_; rintro e w1 ⟨rfl, hb1⟩; have hbb := (hb.below hb1 (Nat.le_refl _)).up hb1.size) | (go_at_call 62; refine (impl_AreBits_any _ _ _ _ _ hbb).mono ?_; rintro e w2 ⟨rfl, hb2⟩))
    go_ret2
    exact ⟨none, 0, 0, by simp [streamF, hg2], by simpa [streamF, hg2] using OwnI.nil _ _ _, hb1.trans (hb2.mono hb1.size)⟩
  · have h2 := wordsB_iff.1 hg
    have h3 := goodB_iff.1 hg2
    have HX := Lib.hid (stream_xor (key := key) hg2)
    rw [hl.out] at h2
    rw [hl2.out] at h3
    have hn10 : n ≤ 10 := by omega
    have hm64 : m ≤ 64 := by omega
    have H2 := Lib.hid h2
    clear h2 h3
    go_enter Try.func31, Try.ntmps31
    go_wp2_with (first | (go_at_call 43; refine (areWords_any _ _ _ _ _ _ ha).mono ?_; rintro e w1 ⟨rfl, hb1⟩; have hbb := (hb.below hb1 (Nat.le_refl _)).up hb1.size) | (go_at_call 62; refine (impl_AreBits_any _ _ _ _ _ hbb).mono ?_; rintro e w2 ⟨rfl, hb2⟩))
    have hb12 := hb1.trans (hb2.mono hb1.size)
    refine (bitsFrom_any _ _ _ _ _ _ ((ha.below hb12 (Nat.le_refl _)).up hb12.size) hn10 H2.out.2 hm64).mono ?_
    rintro e w3 ⟨a1, n1, c1, rfl, ho1, hb3⟩
    have hb13 := hb12.trans (hb3.mono hb12.size)
    go_wp2_with fail
    refine (impl_XorBits_any _ _ _ _ _ _ _ _ _ ((hb.below hb13 (Nat.le_refl _)).up hb13.size) ho1.ints).mono ?_
    rintro e w4 ⟨a2, n2, c2, rfl, ho2, hb4⟩
    rw [← hl2.out, HX.out] at ho2 ⊢
    go_wp2_with fail
    go_ret2
    exact ⟨a2, n2, c2, by simp [streamF, hg, hg2], by simpa [streamF, hg, hg2] using ho2.up hb13.size, hb13.trans (hb4.mono hb13.size)⟩
end Go.Proofs.Ythknkljekmffmaa
