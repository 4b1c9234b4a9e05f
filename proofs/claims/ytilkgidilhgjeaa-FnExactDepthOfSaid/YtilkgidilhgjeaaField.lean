/-
  Digests of texts; primes; sums, products and orders in a field. Each pair of functions (reference, program) answers by one Lean function.
-/
import Derived.Test.YtilkgidilhgjeaaAll
namespace Go.Proofs.Ytilkgidilhgjeaa
open Go.RowKit

/-! ### TextDigest -/
def dgT (l : List UInt8) : Int := l.foldl (fun a c => (263 * a + (c.toNat : Int) + 1) % 1000003) 11
theorem dgT_snoc (l : List UInt8) (c : UInt8) : dgT (l ++ [c]) = (263 * dgT l + (c.toNat : Int) + 1) % 1000003 := by simp [dgT]
theorem dgT_bd (l : List UInt8) : 0 ≤ dgT l ∧ dgT l < 1000003 := by
  rcases l.eq_nil_or_concat with rfl | ⟨l', c, rfl⟩
  · decide
  · rw [List.concat_eq_append, dgT_snoc]; omega
theorem take_snoc (s : ByteArray) (k : Nat) (h : k < s.size) : s.data.toList.take (k + 1) = s.data.toList.take k ++ [s[k]] := by
  rw [List.take_succ_eq_append_getElem (by simpa using h)]; rfl
theorem dgText_any (s : ByteArray) (w : World) (hs : s.size ≤ 1048576) :
    Calls Try.prog 94 #[.string s] w fun e w' => e = .returned (.int .i64 (dgT s.data.toList)) ∧ w = w' := by
  go_enter Try.func94, Try.ntmps94
  go_wp2
  go_loop [3, 4] (fun n i => ∃ k : Nat, k ≤ s.size ∧ i = .int .i64 k ∧ n = .int .i64 (dgT (s.data.toList.take k))) (fun _ i => s.size - (intOf i).toNat)
  case atStart => exact ⟨0, Nat.zero_le _, rfl, rfl⟩
  case round =>
    obtain ⟨k, hk, rfl, rfl⟩ := hrel
    by_cases hlt : k < s.size
    · have hd := dgT_bd (s.data.toList.take k)
      have HS := Lib.hid (dgT_snoc (s.data.toList.take k) s[k])
      have HT := Lib.hid (take_snoc s k hlt)
      have hc : s[k].toNat < 256 := s[k].toNat_lt
      go_wp2
      go_round
      case rel => exact ⟨k + 1, by omega, by go_num, by rw [HT.out, HS.out]⟩
      case measure => simp [intOf] <;> omega
    · obtain rfl : k = s.size := by omega
      go_wp2
      go_ret
      exact ⟨ret_int (by rw [List.take_of_length_le (by simp)]), rfl⟩
theorem spec_TextDigest_any (s : ByteArray) (w : World) (hs : s.size ≤ 1048576) :
    Calls Try.prog 47 #[.string s] w fun e w' => e = .returned (.int .i64 (dgT s.data.toList)) ∧ w = w' := by
  go_enter Try.func47, Try.ntmps47
  go_wp2_with (go_at_call 94; refine (dgText_any _ _ hs).mono ?_; rintro e w' ⟨rfl, rfl⟩)
  go_ret
  exact ⟨rfl, rfl⟩
theorem impl_TextDigest_any (s : ByteArray) (w : World) (hs : s.size ≤ 1048576) :
    Calls Try.prog 46 #[.string s] w fun e w' => e = .returned (.int .i64 (dgT s.data.toList)) ∧ w = w' := by
  go_enter Try.func46, Try.ntmps46
  go_wp2
  go_loop [3, 7] (fun n i => ∃ k : Nat, k ≤ s.size ∧ i = .int .i64 k ∧ n = .int .i64 (dgT (s.data.toList.take k))) (fun _ i => s.size - (intOf i).toNat)
  case atStart => exact ⟨0, Nat.zero_le _, rfl, rfl⟩
  case round =>
    obtain ⟨k, hk, rfl, rfl⟩ := hrel
    by_cases hlt : k < s.size
    · have hd := dgT_bd (s.data.toList.take k)
      have HS := Lib.hid (dgT_snoc (s.data.toList.take k) s[k])
      have HT := Lib.hid (take_snoc s k hlt)
      have hc : s[k].toNat < 256 := s[k].toNat_lt
      go_wp2
      go_round
      case rel => exact ⟨k + 1, by omega, by go_num, by rw [HT.out, HS.out]⟩
      case measure => simp [intOf] <;> omega
    · obtain rfl : k = s.size := by omega
      go_wp2
      go_ret
      exact ⟨ret_int (by rw [List.take_of_length_le (by simp)]), rfl⟩

/-! ### Primes -/
def tryDiv (p : Nat) : Nat → Nat → Bool
  | 0, _ => true
  | f + 1, d => if d * d ≤ p then (if p % d = 0 then false else tryDiv p f (d + 1)) else true
theorem tryDiv_stop {p f d : Nat} (h : ¬ d * d ≤ p) : tryDiv p f d = true := by cases f <;> simp [tryDiv, h]
def primeB (p : Int) : Bool := inB p 2 251 && tryDiv p.toNat 20 2
theorem sq_le {d : Nat} (h : d ≤ 16) : d * d ≤ 256 := Nat.mul_le_mul h h
theorem sq_leI {d : Nat} (h : d ≤ 16) : 0 ≤ (d : Int) * d ∧ (d : Int) * d ≤ 256 := by have := sq_le h; rw [← Int.natCast_mul]; omega
theorem sq_lt {d p : Nat} (h : d * d ≤ p) (hp : p ≤ 251) : d ≤ 15 := by
  rcases Nat.lt_or_ge d 16 with h1 | h1
  · omega
  · have := Nat.mul_le_mul h1 h1; omega
/-! ### Elements -/
def elemB (p a : Int) : Bool := primeB p && inB a 0 (p - 1)
theorem elemB_bd {p a : Int} (h : elemB p a = true) : 2 ≤ p ∧ p ≤ 251 ∧ 0 ≤ a ∧ a ≤ p - 1 := by
  simp only [elemB, primeB, Bool.and_eq_true, inB_iff] at h
  exact ⟨h.1.1.1, h.1.1.2, h.2.1, h.2.2⟩
theorem elems2 (p a b : Int) : (primeB p && allIn 0 (p - 1) [a, b]) = (elemB p a && elemB p b) := by
  simp [elemB, allIn]; cases primeB p <;> simp
theorem elems1 (p a : Int) : (primeB p && allIn 0 (p - 1) [a]) = elemB p a := by simp [elemB, allIn]
theorem ints_new (w : World) (xs : List Int) (h : xs.length ≤ 1000000000) : Ints (w.alloc (.cells (xs.map (Value.int .i64)).toArray 3)) (w.heap.size + 1) (some ⟨w.heap.size, 0, none⟩) xs.length xs := ⟨rfl, h, cellsAt_new _ _ _⟩

def addF (p a b : Int) : Int × Bool := if (elemB p a && elemB p b) = true then ((a + b) % p, true) else (0, false)
def mulF (p a b : Int) : Int × Bool := if (elemB p a && elemB p b) = true then ((a * b) % p, true) else (0, false)
theorem mul_bd {p a b : Int} (ha : elemB p a = true) (hb : elemB p b = true) : 0 ≤ a * b ∧ a * b ≤ 62500 := by
  have h1 := elemB_bd ha
  have h2 := elemB_bd hb
  constructor
  · exact Int.mul_nonneg h1.2.2.1 h2.2.2.1
  · have := Int.mul_le_mul (show a ≤ 250 by omega) (show b ≤ 250 by omega) h2.2.2.1 (by decide)
    omega
end Go.Proofs.Ytilkgidilhgjeaa
