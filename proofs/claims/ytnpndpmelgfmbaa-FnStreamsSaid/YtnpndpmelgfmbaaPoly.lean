/-
  Values of polynomials; streams; orders from words.
-/
import Derived.Test.YtnpndpmelgfmbaaTurn
namespace Go.Proofs.Ytnpndpmelgfmbaa
open Go.RowKit

/-! ### Values of polynomials -/
def evalL (p x : Int) (xs : List Int) : Int := xs.foldr (fun c a => (a * x + c) % p) 0
theorem evalL_drop {p x : Int} {xs : List Int} {j : Nat} {c : Int} (hx : xs[j]? = some c) : evalL p x (xs.drop j) = (evalL p x (xs.drop (j + 1)) * x + c) % p := by
  have hj : j < xs.length := (List.getElem?_eq_some_iff.1 hx).1
  rw [List.drop_eq_getElem_cons hj]
  have : xs[j] = c := by rw [List.getElem?_eq_getElem hj] at hx; simpa using hx
  rw [this]; rfl
theorem evalL_bd {p x : Int} (hp : 0 < p) (xs : List Int) : 0 ≤ evalL p x xs ∧ evalL p x xs < p := by
  cases xs with
  | nil => exact ⟨Int.le_refl _, hp⟩
  | cons c cs => exact ⟨Int.emod_nonneg _ (by omega), Int.emod_lt_of_pos _ hp⟩
theorem ax_bd {p a x : Int} (hp : p ≤ 251) (ha : 0 ≤ a ∧ a < p) (hx : 0 ≤ x ∧ x ≤ p - 1) : 0 ≤ a * x ∧ a * x ≤ 63001 := by
  constructor
  · exact Int.mul_nonneg ha.1 hx.1
  · have := Int.mul_le_mul (show a ≤ 251 by omega) (show x ≤ 251 by omega) hx.1 (by decide)
    omega
def evalPolyF (p : Int) (xs : List Int) (x : Int) : Int × Bool := if (elemB p x && allIn 0 (p - 1) xs && decide (xs.length ≤ 12)) = true then (evalL p x xs, true) else (0, false)
theorem ints_new_any (w w' : World) (x : Int) (hb : w' = w.alloc (.cells #[.int .i64 x] 3)) : Ints w' (w.heap.size + 1) (some ⟨w.heap.size, 0, none⟩) 1 [x] := by
  subst hb; exact ints_new w [x] (by simp)
theorem elemB_prime {p x : Int} (h : elemB p x = true) : primeB p = true := by
  simp only [elemB, Bool.and_eq_true] at h; exact h.1
/-! ### Streams -/
def streamF (key xs : List Int) : List Int × Bool := if (wordsB key 10 && goodB xs 64) = true then (xorL xs (bitsL key xs.length), true) else ([], false)
theorem spec_StreamXor_any (w : World) (ao bo : Option Addr) (n m c d : Nat) (key xs : List Int) (ha : Ints w w.heap.size ao n key) (hb : Ints w w.heap.size bo m xs) :
    Calls Try.prog 56 #[.slice ao n c, .slice bo m d] w (RetIB (streamF key xs) w) := by
  have hl := Lib.hid ha.1
  have hl2 := Lib.hid hb.1
  cases hg : wordsB key 10
  · go_enter Try.func56, Try.ntmps56
    go_wp2_with (go_at_call 135; refine (dgShort_any _ _ _ _ _ _ ha).mono ?_; rintro e w' ⟨rfl, rfl⟩)
    go_ret2
    exact ⟨none, 0, 0, by simp [streamF, hg], by simpa [streamF, hg] using OwnI.nil _ _ _, Below.refl _ _⟩
  cases hg2 : goodB xs 64
  · go_enter Try.func56, Try.ntmps56
    go_wp2_with (first | (go_at_call 135; refine (dgShort_any _ _ _ _ _ _ ha).mono ?_; rintro e w' ⟨rfl, rfl⟩) | (go_at_call 25; refine (spec_AreBits_any _ _ _ _ _ _ hb).mono ?_; rintro e w' ⟨rfl, rfl⟩))
    go_ret2
    exact ⟨none, 0, 0, by simp [streamF, hg2], by simpa [streamF, hg2] using OwnI.nil _ _ _, Below.refl _ _⟩
  · have h2 := wordsB_iff.1 hg
    have h3 := goodB_iff.1 hg2
    rw [hl.out] at h2
    rw [hl2.out] at h3
    have hn10 : n ≤ 10 := by omega
    have hm64 : m ≤ 64 := by omega
    have H2 := Lib.hid h2
    have H3 := Lib.hid h3
    clear h2 h3
    go_enter Try.func56, Try.ntmps56
    go_wp2_with (first | (go_at_call 135; refine (dgShort_any _ _ _ _ _ _ ha).mono ?_; rintro e w' ⟨rfl, rfl⟩) | (go_at_call 25; refine (spec_AreBits_any _ _ _ _ _ _ hb).mono ?_; rintro e w' ⟨rfl, rfl⟩))
    refine (dgBits_any _ _ _ _ _ _ ha hn10 H2.out.2 hm64).mono ?_
    rintro e w1 ⟨a1, n1, c1, rfl, ho1, hb1⟩
    have hn1 : n1 = m := by rw [← ho1.1, bitsL_length]
    subst hn1
    go_wp2_with fail
    refine (btXor_any _ _ _ _ _ _ _ _ ((hb.below hb1 (Nat.le_refl _)).up hb1.size) ho1.ints hm64 H3.out.2 (bitsL_bits _ _)).mono ?_
    rintro e w2 ⟨a2, n2, c2, rfl, ho2, hb2⟩
    go_wp2_with fail
    go_ret2
    exact ⟨a2, n2, c2, by simp [streamF, hg, hg2], by simpa [streamF, hg, hg2, hl2.out] using ho2.up hb1.size, hb1.trans (hb2.mono hb1.size)⟩
theorem stream_xor {key xs : List Int} (hg2 : goodB xs 64 = true) : xorBitsF xs (bitsL key xs.length) = (xorL xs (bitsL key xs.length), true) := by
  have hb : goodB (bitsL key xs.length) 64 = true := goodB_iff.2 ⟨by rw [bitsL_length]; exact (goodB_iff.1 hg2).1, bitsL_bits _ _⟩
  simp [xorBitsF, hg2, hb, bitsL_length]
theorem impl_StreamXor_any (w : World) (ao bo : Option Addr) (n m c d : Nat) (key xs : List Int) (ha : Ints w w.heap.size ao n key) (hb : Ints w w.heap.size bo m xs) :
    Calls Try.prog 55 #[.slice ao n c, .slice bo m d] w (RetIB (streamF key xs) w) := by
  have hl := Lib.hid ha.1
  have hl2 := Lib.hid hb.1
  cases hg : wordsB key 10
  · go_enter Try.func55, Try.ntmps55
    go_wp2_with (go_at_call 133; refine (areWords_any _ _ _ _ _ _ ha).mono ?_; rintro e w1 ⟨rfl, hb1⟩)
    go_ret2
    exact ⟨none, 0, 0, by simp [streamF, hg], by simpa [streamF, hg] using OwnI.nil _ _ _, hb1⟩
  cases hg2 : goodB xs 64
  · go_enter Try.func55, Try.ntmps55
    go_wp2_with (first | (go_at_call 133; refine (areWords_any _ _ _ _ _ _ ha).mono ?_; rintro e w1 ⟨rfl, hb1⟩; have hbb := (hb.below hb1 (Nat.le_refl _)).up hb1.size) | (go_at_call 24; refine (impl_AreBits_any _ _ _ _ _ hbb).mono ?_; rintro e w2 ⟨rfl, hb2⟩))
    go_ret2
    exact ⟨none, 0, 0, by simp [streamF, hg2], by simpa [streamF, hg2] using OwnI.nil _ _ _, hb1.trans (hb2.mono hb1.size)⟩
  · have h2 := wordsB_iff.1 hg
    have h3 := goodB_iff.1 hg2
    have HX := Lib.hid (stream_xor (key := key) hg2)
    rw [hl.out] at h2
    rw [hl2.out] at h3
    have hn10 : n ≤ 10 := by omega
    have hm64 : m ≤ 64 := by omega
    have H2 := Lib.hid h2
    clear h2 h3
    go_enter Try.func55, Try.ntmps55
    go_wp2_with (first | (go_at_call 133; refine (areWords_any _ _ _ _ _ _ ha).mono ?_; rintro e w1 ⟨rfl, hb1⟩; have hbb := (hb.below hb1 (Nat.le_refl _)).up hb1.size) | (go_at_call 24; refine (impl_AreBits_any _ _ _ _ _ hbb).mono ?_; rintro e w2 ⟨rfl, hb2⟩))
    have hb12 := hb1.trans (hb2.mono hb1.size)
    refine (bitsFrom_any _ _ _ _ _ _ ((ha.below hb12 (Nat.le_refl _)).up hb12.size) hn10 H2.out.2 hm64).mono ?_
    rintro e w3 ⟨a1, n1, c1, rfl, ho1, hb3⟩
    have hb13 := hb12.trans (hb3.mono hb12.size)
    go_wp2_with fail
    refine (impl_XorBits_any _ _ _ _ _ _ _ _ _ ((hb.below hb13 (Nat.le_refl _)).up hb13.size) ho1.ints).mono ?_
    rintro e w4 ⟨a2, n2, c2, rfl, ho2, hb4⟩
    rw [← hl2.out, HX.out] at ho2 ⊢
    go_wp2_with fail
    go_ret2
    exact ⟨a2, n2, c2, by simp [streamF, hg, hg2], by simpa [streamF, hg, hg2] using ho2.up hb13.size, hb13.trans (hb4.mono hb13.size)⟩
end Go.Proofs.Ytnpndpmelgfmbaa
