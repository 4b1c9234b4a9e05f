/-
  Orders of elements: the loop ends because a power of every element of a field of a prime below 252 is 1 (checked for each).
-/
import Derived.Test.YthnmdcfpddpdfaaField
namespace Go.Proofs.Ythnmdcfpddpdfaa
open Go.RowKit

def ordGo (p a : Nat) : Nat → Nat → Nat → Nat
  | 0, _, n => n
  | f + 1, x, n => if x = 1 then n else ordGo p a f (x * a % p) (n + 1)
def ordV (p a : Nat) : Nat := ordGo p a 300 a 1
def orderF (p a : Int) : Int × Bool := if (elemB p a && !(a == 0)) = true then ((ordV p.toNat a.toNat : Nat), true) else (0, false)
def fermatAll : Bool := (List.range 252).all fun p => !(primeB (p : Int)) || (List.range p).all fun a => a == 0 || a ^ (p - 1) % p == 1
theorem fermat_all : fermatAll = true := by decide +kernel
theorem fermat {p a : Nat} (hp : primeB (p : Int) = true) (ha : a < p) (h0 : a ≠ 0) : a ^ (p - 1) % p = 1 := by
  have hp2 : p < 252 := by
    have h := hp
    simp only [primeB, Bool.and_eq_true, inB_iff] at h
    omega
  have h1 := List.all_eq_true.1 fermat_all p (List.mem_range.2 hp2)
  rw [hp] at h1
  simp only [Bool.not_true, Bool.false_or] at h1
  have h2 := List.all_eq_true.1 h1 a (List.mem_range.2 ha)
  simpa [h0] using h2
theorem ord_next {p a n x : Nat} (h : x = a ^ n % p) : x * a % p = a ^ (n + 1) % p := by
  rw [h, Nat.pow_succ, Nat.mod_mul_mod]
theorem xa_bd {p a x : Nat} (hp : p ≤ 251) (hx : x < p) (ha : a < p) : 0 ≤ (x : Int) * a ∧ (x : Int) * a ≤ 63001 := by
  have := Nat.mul_le_mul (show x ≤ 251 by omega) (show a ≤ 251 by omega)
  rw [← Int.natCast_mul]; omega

theorem orderF_val {p a n : Nat} (h : elemB p a = true) (hz : ((a : Int) == 0) = false) (hv : ordV p a = n) : orderF p a = ((n : Int), true) := by
  rw [orderF, h, hz, Int.toNat_natCast, Int.toNat_natCast, hv]; rfl
theorem spec_OrderMod_any (p0 a0 : Int) (w : World) : Calls Try.prog 27 #[.int .i64 p0, .int .i64 a0] w (RetNB (orderF p0 a0) w) := by
  have hb0 : Below w.heap.size w (w.alloc (.cells #[.int .i64 a0] 3)) := (Below.refl _ _).alloc (Nat.le_refl _) _
  cases h : elemB p0 a0
  · go_enter Try.func27, Try.ntmps27
    go_wp2_with (go_at_call 47; refine (fpIn_any _ _ _ _ _ _ _ (ints_new w [a0] (by simp))).mono ?_; rintro e w' ⟨rfl, rfl⟩; rw [elems1])
    go_ret2
    exact ⟨by simp [orderF, h], hb0⟩
  · by_cases hz : a0 = 0
    · subst hz
      go_enter Try.func27, Try.ntmps27
      go_wp2_with (go_at_call 47; refine (fpIn_any _ _ _ _ _ _ _ (ints_new w [0] (by simp))).mono ?_; rintro e w' ⟨rfl, rfl⟩; rw [elems1])
      go_ret2
      exact ⟨by simp [orderF], hb0⟩
    · have hz' : (a0 == 0) = false := by simpa using hz
      have h1 := elemB_bd h
      obtain ⟨p, rfl⟩ := Int.eq_ofNat_of_zero_le (show 0 ≤ p0 by omega)
      obtain ⟨a, rfl⟩ := Int.eq_ofNat_of_zero_le h1.2.2.1
      have hpr : primeB (p : Int) = true := by
        have h2 := h
        simp only [elemB, Bool.and_eq_true] at h2
        exact h2.1
      have hfer := Lib.hid (fermat hpr (show a < p by omega) (by omega))
      clear hpr
      go_enter Try.func27, Try.ntmps27
      go_wp2_with (go_at_call 47; refine (fpIn_any _ _ _ _ _ _ _ (ints_new w [(a : Int)] (by simp))).mono ?_; rintro e w' ⟨rfl, rfl⟩; rw [elems1])
      go_loop [6, 7] (fun ns xs => ∃ n x : Nat, 1 ≤ n ∧ n ≤ p - 1 ∧ ns = .int .i64 n ∧ xs = .int .i64 x ∧ x < p ∧ Hid (x = a ^ n % p) ∧ Hid (ordV p a = ordGo p a (301 - n) x n)) (fun ns _ => 300 - (intOf ns).toNat)
      case atStart => exact ⟨1, a, by omega, by omega, rfl, rfl, by omega, by show a = a ^ 1 % p; rw [Nat.pow_one, Nat.mod_eq_of_lt (by omega)], rfl⟩
      case round =>
        obtain ⟨n, x, hn1, hn2, rfl, rfl, hxp, HX, HO⟩ := hrel
        have HE : Hid (ordGo p a (301 - n) x n = if x = 1 then n else ordGo p a (301 - (n + 1)) (x * a % p) (n + 1)) := by
          show ordGo p a (301 - n) x n = _
          rw [show 301 - n = (301 - (n + 1)) + 1 from by omega, ordGo]
        by_cases hx1 : x = 1
        · have hx1' : ((x : Int) != 1) = false := by simp; omega
          go_wp2
          go_ret2
          exact ⟨by rw [orderF_val h hz' (HO.out.trans (HE.out.trans (if_pos hx1)))]; rfl, hb0⟩
        · have hx1' : ((x : Int) != 1) = true := by simp; omega
          have hnp : n ≠ p - 1 := by
            intro e
            apply hx1
            rw [HX.out, e]; exact hfer.out
          have hxa := xa_bd (show p ≤ 251 by omega) hxp (show a < p by omega)
          have hnx := Lib.hid (ord_next HX.out)
          go_wp2
          go_round
          case rel => exact ⟨n + 1, x * a % p, by omega, by omega, by go_num, by simp, Nat.mod_lt _ (by omega), hnx.out, by show _ = _; rw [HO.out, HE.out, if_neg hx1]⟩
          case measure => simp [intOf] <;> omega
theorem impl_OrderMod_any (p0 a0 : Int) (w : World) : Calls Try.prog 28 #[.int .i64 p0, .int .i64 a0] w (RetNB (orderF p0 a0) w) := by
  cases h : elemB p0 a0
  · go_enter Try.func28, Try.ntmps28
    go_wp2_with (go_at_call 48; refine (isElement_any _ _ _).mono ?_; rintro e w' ⟨rfl, rfl⟩)
    go_ret2
    exact ⟨by simp [orderF, h], Below.refl _ _⟩
  · by_cases hz : a0 = 0
    · subst hz
      go_enter Try.func28, Try.ntmps28
      go_wp2_with (go_at_call 48; refine (isElement_any _ _ _).mono ?_; rintro e w' ⟨rfl, rfl⟩)
      go_ret2
      exact ⟨by simp [orderF], Below.refl _ _⟩
    · have hz' : (a0 == 0) = false := by simpa using hz
      have h1 := elemB_bd h
      obtain ⟨p, rfl⟩ := Int.eq_ofNat_of_zero_le (show 0 ≤ p0 by omega)
      obtain ⟨a, rfl⟩ := Int.eq_ofNat_of_zero_le h1.2.2.1
      have hpr : primeB (p : Int) = true := by
        have h2 := h
        simp only [elemB, Bool.and_eq_true] at h2
        exact h2.1
      have hfer := Lib.hid (fermat hpr (show a < p by omega) (by omega))
      clear hpr
      go_enter Try.func28, Try.ntmps28
      go_wp2_with (go_at_call 48; refine (isElement_any _ _ _).mono ?_; rintro e w' ⟨rfl, rfl⟩)
      go_loop [6, 7] (fun ns xs => ∃ n x : Nat, 1 ≤ n ∧ n ≤ p - 1 ∧ ns = .int .i64 n ∧ xs = .int .i64 x ∧ x < p ∧ Hid (x = a ^ n % p) ∧ Hid (ordV p a = ordGo p a (301 - n) x n)) (fun ns _ => 300 - (intOf ns).toNat)
      case atStart => exact ⟨1, a, by omega, by omega, rfl, rfl, by omega, by show a = a ^ 1 % p; rw [Nat.pow_one, Nat.mod_eq_of_lt (by omega)], rfl⟩
      case round =>
        obtain ⟨n, x, hn1, hn2, rfl, rfl, hxp, HX, HO⟩ := hrel
        have HE : Hid (ordGo p a (301 - n) x n = if x = 1 then n else ordGo p a (301 - (n + 1)) (x * a % p) (n + 1)) := by
          show ordGo p a (301 - n) x n = _
          rw [show 301 - n = (301 - (n + 1)) + 1 from by omega, ordGo]
        by_cases hx1 : x = 1
        · have hx1' : ((x : Int) != 1) = false := by simp; omega
          go_wp2
          go_ret2
          exact ⟨by rw [orderF_val h hz' (HO.out.trans (HE.out.trans (if_pos hx1)))]; rfl, Below.refl _ _⟩
        · have hx1' : ((x : Int) != 1) = true := by simp; omega
          have hnp : n ≠ p - 1 := by
            intro e
            apply hx1
            rw [HX.out, e]; exact hfer.out
          have hxa := xa_bd (show p ≤ 251 by omega) hxp (show a < p by omega)
          have hnx := Lib.hid (ord_next HX.out)
          go_wp2
          go_round
          case rel => exact ⟨n + 1, x * a % p, by omega, by omega, by go_num, by simp, Nat.mod_lt _ (by omega), hnx.out, by show _ = _; rw [HO.out, HE.out, if_neg hx1]⟩
          case measure => simp [intOf] <;> omega
end Go.Proofs.Ythnmdcfpddpdfaa
