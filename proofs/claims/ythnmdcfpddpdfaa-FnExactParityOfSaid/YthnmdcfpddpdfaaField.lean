/-
  Digests of texts; primes; sums, products and orders in a field. Each pair of functions (reference, program) answers by one Lean function.
-/
import Derived.Test.YthnmdcfpddpdfaaAll
namespace Go.Proofs.Ythnmdcfpddpdfaa
open Go.RowKit

/-! ### TextDigest -/
def dgT (l : List UInt8) : Int := l.foldl (fun a c => (263 * a + (c.toNat : Int) + 1) % 1000003) 11
theorem dgT_snoc (l : List UInt8) (c : UInt8) : dgT (l ++ [c]) = (263 * dgT l + (c.toNat : Int) + 1) % 1000003 := by simp [dgT]
theorem dgT_bd (l : List UInt8) : 0 ≤ dgT l ∧ dgT l < 1000003 := by
  rcases l.eq_nil_or_concat with rfl | ⟨l', c, rfl⟩
  · decide
  · rw [List.concat_eq_append, dgT_snoc]; omega
theorem take_snoc (s : ByteArray) (k : Nat) (h : k < s.size) : s.data.toList.take (k + 1) = s.data.toList.take k ++ [s[k]] := by
  rw [List.take_succ_eq_append_getElem (by simpa using h)]; rfl
theorem dgText_any (s : ByteArray) (w : World) (hs : s.size ≤ 1048576) :
    Calls Try.prog 41 #[.string s] w fun e w' => e = .returned (.int .i64 (dgT s.data.toList)) ∧ w = w' := by
  go_enter Try.func41, Try.ntmps41
  go_wp2
  go_loop [3, 4] (fun n i => ∃ k : Nat, k ≤ s.size ∧ i = .int .i64 k ∧ n = .int .i64 (dgT (s.data.toList.take k))) (fun _ i => s.size - (intOf i).toNat)
  case atStart => exact ⟨0, Nat.zero_le _, rfl, rfl⟩
  case round =>
    obtain ⟨k, hk, rfl, rfl⟩ := hrel
    by_cases hlt : k < s.size
    · have hd := dgT_bd (s.data.toList.take k)
      have HS := Lib.hid (dgT_snoc (s.data.toList.take k) s[k])
      have HT := Lib.hid (take_snoc s k hlt)
      have hc : s[k].toNat < 256 := s[k].toNat_lt
      go_wp2
      go_round
      case rel => exact ⟨k + 1, by omega, by go_num, by rw [HT.out, HS.out]⟩
      case measure => simp [intOf] <;> omega
    · obtain rfl : k = s.size := by omega
      go_wp2
      go_ret
      exact ⟨ret_int (by rw [List.take_of_length_le (by simp)]), rfl⟩
theorem spec_TextDigest_any (s : ByteArray) (w : World) (hs : s.size ≤ 1048576) :
    Calls Try.prog 15 #[.string s] w fun e w' => e = .returned (.int .i64 (dgT s.data.toList)) ∧ w = w' := by
  go_enter Try.func15, Try.ntmps15
  go_wp2_with (go_at_call 41; refine (dgText_any _ _ hs).mono ?_; rintro e w' ⟨rfl, rfl⟩)
  go_ret
  exact ⟨rfl, rfl⟩
theorem impl_TextDigest_any (s : ByteArray) (w : World) (hs : s.size ≤ 1048576) :
    Calls Try.prog 16 #[.string s] w fun e w' => e = .returned (.int .i64 (dgT s.data.toList)) ∧ w = w' := by
  go_enter Try.func16, Try.ntmps16
  go_wp2
  go_loop [3, 7] (fun n i => ∃ k : Nat, k ≤ s.size ∧ i = .int .i64 k ∧ n = .int .i64 (dgT (s.data.toList.take k))) (fun _ i => s.size - (intOf i).toNat)
  case atStart => exact ⟨0, Nat.zero_le _, rfl, rfl⟩
  case round =>
    obtain ⟨k, hk, rfl, rfl⟩ := hrel
    by_cases hlt : k < s.size
    · have hd := dgT_bd (s.data.toList.take k)
      have HS := Lib.hid (dgT_snoc (s.data.toList.take k) s[k])
      have HT := Lib.hid (take_snoc s k hlt)
      have hc : s[k].toNat < 256 := s[k].toNat_lt
      go_wp2
      go_round
      case rel => exact ⟨k + 1, by omega, by go_num, by rw [HT.out, HS.out]⟩
      case measure => simp [intOf] <;> omega
    · obtain rfl : k = s.size := by omega
      go_wp2
      go_ret
      exact ⟨ret_int (by rw [List.take_of_length_le (by simp)]), rfl⟩

/-! ### Primes -/
def tryDiv (p : Nat) : Nat → Nat → Bool
  | 0, _ => true
  | f + 1, d => if d * d ≤ p then (if p % d = 0 then false else tryDiv p f (d + 1)) else true
theorem tryDiv_stop {p f d : Nat} (h : ¬ d * d ≤ p) : tryDiv p f d = true := by cases f <;> simp [tryDiv, h]
def primeB (p : Int) : Bool := inB p 2 251 && tryDiv p.toNat 20 2
theorem sq_le {d : Nat} (h : d ≤ 16) : d * d ≤ 256 := Nat.mul_le_mul h h
theorem sq_leI {d : Nat} (h : d ≤ 16) : 0 ≤ (d : Int) * d ∧ (d : Int) * d ≤ 256 := by have := sq_le h; rw [← Int.natCast_mul]; omega
theorem sq_lt {d p : Nat} (h : d * d ≤ p) (hp : p ≤ 251) : d ≤ 15 := by
  rcases Nat.lt_or_ge d 16 with h1 | h1
  · omega
  · have := Nat.mul_le_mul h1 h1; omega
theorem fpGood_any (p : Int) (w : World) : Calls Try.prog 42 #[.int .i64 p] w fun e w' => e = .returned (.bool (primeB p)) ∧ w = w' := by
  cases hin : inB p 2 251
  · go_enter Try.func42, Try.ntmps42
    go_wp2_with (go_at_call 57; refine (l1In_any _ _ _ _).mono ?_; rintro e w' ⟨rfl, rfl⟩)
    go_ret
    exact ⟨ret_bool (by simp [primeB, hin]), rfl⟩
  · obtain ⟨h1, h2⟩ := inB_iff.1 hin
    obtain ⟨q, rfl⟩ := Int.eq_ofNat_of_zero_le (show 0 ≤ p by omega)
    have HI := Lib.hid hin
    go_enter Try.func42, Try.ntmps42
    go_wp2_with (go_at_call 57; refine (l1In_any _ _ _ _).mono ?_; rintro e w' ⟨rfl, rfl⟩)
    go_loop [3] (fun i => ∃ d : Nat, 2 ≤ d ∧ d ≤ 16 ∧ i = .int .i64 d ∧ Hid (tryDiv q 20 2 = tryDiv q (22 - d) d)) (fun i => 20 - (intOf i).toNat)
    case atStart => exact ⟨2, by omega, by omega, rfl, rfl⟩
    case round =>
      obtain ⟨d, hd1, hd2, rfl, HT⟩ := hrel
      have hsq := sq_leI hd2
      by_cases hle : d * d ≤ q
      · have hd3 := sq_lt hle (by omega)
        have hle' : (d : Int) * d ≤ q := by exact_mod_cast hle
        have HE : Hid (tryDiv q (22 - d) d = if q % d = 0 then false else tryDiv q (22 - (d + 1)) (d + 1)) := by
          show tryDiv q (22 - d) d = _
          rw [show 22 - d = (22 - (d + 1)) + 1 from by omega, tryDiv, if_pos hle]
        by_cases hm : q % d = 0
        · have hm' : ((q : Int) % d == 0) = true := by simp; exact_mod_cast hm
          go_wp2
          go_ret
          exact ⟨ret_bool (by rw [primeB, HI.out, Int.toNat_natCast, HT.out, HE.out, if_pos hm]; rfl), rfl⟩
        · have hm' : ((q : Int) % d == 0) = false := by simp; exact_mod_cast hm
          go_wp2
          go_round
          case rel => exact ⟨d + 1, by omega, by omega, by go_num, by show _ = _; rw [HT.out, HE.out, if_neg hm]⟩
          case measure => simp [intOf] <;> omega
      · have hle' : ¬ (d : Int) * d ≤ q := by exact_mod_cast hle
        go_wp2
        go_ret
        exact ⟨ret_bool (by rw [primeB, HI.out, Int.toNat_natCast, HT.out, tryDiv_stop hle]; rfl), rfl⟩
theorem spec_IsPrime_any (p : Int) (w : World) : Calls Try.prog 17 #[.int .i64 p] w fun e w' => e = .returned (.bool (primeB p)) ∧ w = w' := by
  go_enter Try.func17, Try.ntmps17
  go_wp2_with (go_at_call 42; refine (fpGood_any _ _).mono ?_; rintro e w' ⟨rfl, rfl⟩)
  go_ret
  exact ⟨rfl, rfl⟩
theorem impl_IsPrime_any (p : Int) (w : World) : Calls Try.prog 18 #[.int .i64 p] w fun e w' => e = .returned (.bool (primeB p)) ∧ w = w' := by
  cases hin : inB p 2 251
  · go_enter Try.func18, Try.ntmps18
    go_wp2_with (go_at_call 43; refine (within_any _ _ _ _).mono ?_; rintro e w' ⟨rfl, rfl⟩)
    go_ret
    exact ⟨ret_bool (by simp [primeB, hin]), rfl⟩
  · obtain ⟨h1, h2⟩ := inB_iff.1 hin
    obtain ⟨q, rfl⟩ := Int.eq_ofNat_of_zero_le (show 0 ≤ p by omega)
    have HI := Lib.hid hin
    go_enter Try.func18, Try.ntmps18
    go_wp2_with (go_at_call 43; refine (within_any _ _ _ _).mono ?_; rintro e w' ⟨rfl, rfl⟩)
    go_loop [3] (fun i => ∃ d : Nat, 2 ≤ d ∧ d ≤ 16 ∧ i = .int .i64 d ∧ Hid (tryDiv q 20 2 = tryDiv q (22 - d) d)) (fun i => 20 - (intOf i).toNat)
    case atStart => exact ⟨2, by omega, by omega, rfl, rfl⟩
    case round =>
      obtain ⟨d, hd1, hd2, rfl, HT⟩ := hrel
      have hsq := sq_leI hd2
      by_cases hle : d * d ≤ q
      · have hd3 := sq_lt hle (by omega)
        have hle' : (d : Int) * d ≤ q := by exact_mod_cast hle
        have HE : Hid (tryDiv q (22 - d) d = if q % d = 0 then false else tryDiv q (22 - (d + 1)) (d + 1)) := by
          show tryDiv q (22 - d) d = _
          rw [show 22 - d = (22 - (d + 1)) + 1 from by omega, tryDiv, if_pos hle]
        by_cases hm : q % d = 0
        · have hm' : ((q : Int) % d == 0) = true := by simp; exact_mod_cast hm
          go_wp2
          go_ret
          exact ⟨ret_bool (by rw [primeB, HI.out, Int.toNat_natCast, HT.out, HE.out, if_pos hm]; rfl), rfl⟩
        · have hm' : ((q : Int) % d == 0) = false := by simp; exact_mod_cast hm
          go_wp2
          go_round
          case rel => exact ⟨d + 1, by omega, by omega, by go_num, by show _ = _; rw [HT.out, HE.out, if_neg hm]⟩
          case measure => simp [intOf] <;> omega
      · have hle' : ¬ (d : Int) * d ≤ q := by exact_mod_cast hle
        go_wp2
        go_ret
        exact ⟨ret_bool (by rw [primeB, HI.out, Int.toNat_natCast, HT.out, tryDiv_stop hle]; rfl), rfl⟩

/-! ### Elements -/
theorem fpIn_any (p : Int) (w : World) (B : Nat) (ao : Option Addr) (n c : Nat) (xs : List Int) (ha : Ints w B ao n xs) :
    Calls Try.prog 47 #[.int .i64 p, .slice ao n c] w fun e w' => e = .returned (.bool (primeB p && allIn 0 (p - 1) xs)) ∧ w = w' := by
  have hn := ha.le
  cases hp : primeB p
  · go_enter Try.func47, Try.ntmps47
    go_wp2_with (go_at_call 42; refine (fpGood_any _ _).mono ?_; rintro e w' ⟨rfl, rfl⟩)
    go_ret
    exact ⟨ret_bool (by simp), rfl⟩
  · have hb : 2 ≤ p ∧ p ≤ 251 := by
      have h := hp
      simp only [primeB, Bool.and_eq_true] at h
      exact inB_iff.1 h.1
    go_enter Try.func47, Try.ntmps47
    go_wp2_with (first | (go_at_call 42; refine (fpGood_any _ _).mono ?_; rintro e w' ⟨rfl, rfl⟩) | (go_at_call 58; refine (l1All_any _ _ _ _ _ _ _ _ ha).mono ?_; rintro e w' ⟨rfl, rfl⟩))
    go_ret
    exact ⟨ret_bool (by simp), rfl⟩
def elemB (p a : Int) : Bool := primeB p && inB a 0 (p - 1)
theorem isElement_any (p a : Int) (w : World) : Calls Try.prog 48 #[.int .i64 p, .int .i64 a] w fun e w' => e = .returned (.bool (elemB p a)) ∧ w = w' := by
  cases hp : primeB p
  · go_enter Try.func48, Try.ntmps48
    go_wp2_with (go_at_call 18; refine (impl_IsPrime_any _ _).mono ?_; rintro e w' ⟨rfl, rfl⟩)
    go_ret
    exact ⟨ret_bool (by simp [elemB, hp]), rfl⟩
  · have hb : 2 ≤ p ∧ p ≤ 251 := by
      have h := hp
      simp only [primeB, Bool.and_eq_true] at h
      exact inB_iff.1 h.1
    go_enter Try.func48, Try.ntmps48
    go_wp2_with (first | (go_at_call 18; refine (impl_IsPrime_any _ _).mono ?_; rintro e w' ⟨rfl, rfl⟩) | (go_at_call 43; refine (within_any _ _ _ _).mono ?_; rintro e w' ⟨rfl, rfl⟩))
    go_ret
    exact ⟨ret_bool (by simp [elemB, hp]), rfl⟩
theorem elemB_bd {p a : Int} (h : elemB p a = true) : 2 ≤ p ∧ p ≤ 251 ∧ 0 ≤ a ∧ a ≤ p - 1 := by
  simp only [elemB, primeB, Bool.and_eq_true, inB_iff] at h
  exact ⟨h.1.1.1, h.1.1.2, h.2.1, h.2.2⟩
theorem elems2 (p a b : Int) : (primeB p && allIn 0 (p - 1) [a, b]) = (elemB p a && elemB p b) := by
  simp [elemB, allIn]; cases primeB p <;> simp
theorem elems1 (p a : Int) : (primeB p && allIn 0 (p - 1) [a]) = elemB p a := by simp [elemB, allIn]
theorem ints_new (w : World) (xs : List Int) (h : xs.length ≤ 1000000000) : Ints (w.alloc (.cells (xs.map (Value.int .i64)).toArray 3)) (w.heap.size + 1) (some ⟨w.heap.size, 0, none⟩) xs.length xs := ⟨rfl, h, cellsAt_new _ _ _⟩

def addF (p a b : Int) : Int × Bool := if (elemB p a && elemB p b) = true then ((a + b) % p, true) else (0, false)
def mulF (p a b : Int) : Int × Bool := if (elemB p a && elemB p b) = true then ((a * b) % p, true) else (0, false)
theorem mul_bd {p a b : Int} (ha : elemB p a = true) (hb : elemB p b = true) : 0 ≤ a * b ∧ a * b ≤ 62500 := by
  have h1 := elemB_bd ha
  have h2 := elemB_bd hb
  constructor
  · exact Int.mul_nonneg h1.2.2.1 h2.2.2.1
  · have := Int.mul_le_mul (show a ≤ 250 by omega) (show b ≤ 250 by omega) h2.2.2.1 (by decide)
    omega
theorem spec_AddMod_any (p a b : Int) (w : World) : Calls Try.prog 23 #[.int .i64 p, .int .i64 a, .int .i64 b] w (RetNB (addF p a b) w) := by
  have hb0 : Below w.heap.size w (w.alloc (.cells #[.int .i64 a, .int .i64 b] 3)) := (Below.refl _ _).alloc (Nat.le_refl _) _
  cases h : (elemB p a && elemB p b)
  · go_enter Try.func23, Try.ntmps23
    go_wp2_with (go_at_call 47; refine (fpIn_any _ _ _ _ _ _ _ (ints_new w [a, b] (by simp))).mono ?_; rintro e w' ⟨rfl, rfl⟩; rw [elems2])
    go_ret2
    exact ⟨by simp [addF, h], hb0⟩
  · have h' := h
    rw [Bool.and_eq_true] at h'
    have h1 := elemB_bd h'.1
    have h2 := elemB_bd h'.2
    go_enter Try.func23, Try.ntmps23
    go_wp2_with (go_at_call 47; refine (fpIn_any _ _ _ _ _ _ _ (ints_new w [a, b] (by simp))).mono ?_; rintro e w' ⟨rfl, rfl⟩; rw [elems2])
    go_ret2
    exact ⟨by simp [addF, h], hb0⟩
theorem spec_MulMod_any (p a b : Int) (w : World) : Calls Try.prog 25 #[.int .i64 p, .int .i64 a, .int .i64 b] w (RetNB (mulF p a b) w) := by
  have hb0 : Below w.heap.size w (w.alloc (.cells #[.int .i64 a, .int .i64 b] 3)) := (Below.refl _ _).alloc (Nat.le_refl _) _
  cases h : (elemB p a && elemB p b)
  · go_enter Try.func25, Try.ntmps25
    go_wp2_with (go_at_call 47; refine (fpIn_any _ _ _ _ _ _ _ (ints_new w [a, b] (by simp))).mono ?_; rintro e w' ⟨rfl, rfl⟩; rw [elems2])
    go_ret2
    exact ⟨by simp [mulF, h], hb0⟩
  · have h' := h
    rw [Bool.and_eq_true] at h'
    have h1 := elemB_bd h'.1
    have h3 := mul_bd h'.1 h'.2
    go_enter Try.func25, Try.ntmps25
    go_wp2_with (go_at_call 47; refine (fpIn_any _ _ _ _ _ _ _ (ints_new w [a, b] (by simp))).mono ?_; rintro e w' ⟨rfl, rfl⟩; rw [elems2])
    go_ret2
    exact ⟨by simp [mulF, h], hb0⟩
theorem impl_AddMod_any (p a b : Int) (w : World) : Calls Try.prog 24 #[.int .i64 p, .int .i64 a, .int .i64 b] w (RetNB (addF p a b) w) := by
  cases h1 : elemB p a
  · go_enter Try.func24, Try.ntmps24
    go_wp2_with (go_at_call 48; refine (isElement_any _ _ _).mono ?_; rintro e w' ⟨rfl, rfl⟩)
    go_ret2
    exact ⟨by simp [addF, h1], Below.refl _ _⟩
  · cases h2 : elemB p b
    · go_enter Try.func24, Try.ntmps24
      go_wp2_with (go_at_call 48; refine (isElement_any _ _ _).mono ?_; rintro e w' ⟨rfl, rfl⟩)
      go_ret2
      exact ⟨by simp [addF, h2], Below.refl _ _⟩
    · have e1 := elemB_bd h1
      have e2 := elemB_bd h2
      go_enter Try.func24, Try.ntmps24
      go_wp2_with (go_at_call 48; refine (isElement_any _ _ _).mono ?_; rintro e w' ⟨rfl, rfl⟩)
      go_ret2
      exact ⟨by simp [addF, h1, h2], Below.refl _ _⟩
theorem impl_MulMod_any (p a b : Int) (w : World) : Calls Try.prog 26 #[.int .i64 p, .int .i64 a, .int .i64 b] w (RetNB (mulF p a b) w) := by
  cases h1 : elemB p a
  · go_enter Try.func26, Try.ntmps26
    go_wp2_with (go_at_call 48; refine (isElement_any _ _ _).mono ?_; rintro e w' ⟨rfl, rfl⟩)
    go_ret2
    exact ⟨by simp [mulF, h1], Below.refl _ _⟩
  · cases h2 : elemB p b
    · go_enter Try.func26, Try.ntmps26
      go_wp2_with (go_at_call 48; refine (isElement_any _ _ _).mono ?_; rintro e w' ⟨rfl, rfl⟩)
      go_ret2
      exact ⟨by simp [mulF, h2], Below.refl _ _⟩
    · have e1 := elemB_bd h1
      have e3 := mul_bd h1 h2
      go_enter Try.func26, Try.ntmps26
      go_wp2_with (go_at_call 48; refine (isElement_any _ _ _).mono ?_; rintro e w' ⟨rfl, rfl⟩)
      go_ret2
      exact ⟨by simp [mulF, h1, h2], Below.refl _ _⟩
end Go.Proofs.Ythnmdcfpddpdfaa
