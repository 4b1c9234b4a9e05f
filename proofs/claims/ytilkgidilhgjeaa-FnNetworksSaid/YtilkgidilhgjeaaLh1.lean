/-
  The helpers of the laws: big, sameInts, pSum, pMod, pIn.
-/
import Derived.Test.YtilkgidilhgjeaaDr2
import Derived.Test.YtilkgidilhgjeaaPl1
namespace Go.Proofs.Ytilkgidilhgjeaa
open Go.RowKit
set_option linter.unusedVariables false
set_option linter.unusedSimpArgs false

def bigF (n m : Nat) : Bool := decide (1048576 < n) || decide (1048576 < n + m)
theorem bigF_no {n m : Nat} (h : bigF n m = false) : n ≤ 1048576 ∧ m ≤ 1048576 := by
  simp [bigF] at h
  omega
theorem big_any (w : World) (ao bo : Option Addr) (n m c d : Nat) (hn : n ≤ maxLen) (hm : m ≤ maxLen) :
    Calls Try.prog 22 #[.slice ao n c, .slice bo m d] w fun e w' => e = .returned (.bool (bigF n m)) ∧ w = w' := by
  unfold maxLen at hn hm
  by_cases h : 1048576 < n
  · have h1 : (1048576 : Int) < n := by omega
    go_enter Try.func22, Try.ntmps22
    go_wp2_with fail
    go_ret
    exact ⟨ret_bool (by simp [bigF]; omega), rfl⟩
  · have h1 : ¬ (1048576 : Int) < n := by omega
    by_cases h2 : (1048576 : Int) - n < m
    · go_enter Try.func22, Try.ntmps22
      go_wp2_with fail
      go_ret
      exact ⟨ret_bool (by simp [bigF]; omega), rfl⟩
    · go_enter Try.func22, Try.ntmps22
      go_wp2_with fail
      go_ret
      exact ⟨ret_bool (by simp [bigF]; omega), rfl⟩
theorem sameInts_any (w : World) (B C : Nat) (ao bo : Option Addr) (n m c d : Nat) (xs ys : List Int) (ha : Ints w B ao n xs) (hb : Ints w C bo m ys) (hB : B ≤ w.heap.size) (hC : C ≤ w.heap.size) :
    Calls Try.prog 26 #[.slice ao n c, .slice bo m d] w (RetB (eqB xs ys) w) := by
  have hn := ha.le
  have hm := hb.le
  by_cases hnm : n = m
  · obtain rfl := hnm
    go_enter Try.func26, Try.ntmps26
    go_wp2
    go_loopw [13] (fun i wr => ∃ k : Nat, k ≤ n ∧ i = .int .i64 k ∧ Hid (xs.take k = ys.take k) ∧ Below w.heap.size w wr) (fun i _ => n - (intOf i).toNat)
    case atStart => exact ⟨0, Nat.zero_le _, rfl, by simp [Hid], Below.refl _ _⟩
    case round =>
      obtain ⟨k, hk, rfl, heq, hbel⟩ := hrel
      by_cases hlt : k < n
      · obtain ⟨b1, o1, x, rfl, hb1, hx, hc1⟩ := ha.at hlt
        obtain ⟨b2, o2, y, rfl, hb2, hy, hc2⟩ := hb.at hlt
        have HX := Lib.hid hx
        have HY := Lib.hid hy
        clear hx hy
        have g1 : wr.cell? ⟨b1, o1 + k, none⟩ = some (.int .i64 x) := (hbel.cell (by exact Nat.lt_of_lt_of_le hb1 hB)).trans hc1
        have g2 : wr.cell? ⟨b2, o2 + k, none⟩ = some (.int .i64 y) := (hbel.cell (by exact Nat.lt_of_lt_of_le hb2 hC)).trans hc2
        go_wp2
        go_quiet (fail)
        go_wp2
        · have hne : (x != y) = true := by assumption
          go_ret
          exact ⟨ret_bool (eq_no HX.out HY.out (by simpa using hne)).symm, bdrewN hbel _⟩
        · have hne : (x != y) = false := by assumption
          go_roundw
          case rel => exact ⟨k + 1, by omega, by go_num, eq_step HX.out HY.out heq.out (by simpa using hne), bdrewN hbel _⟩
          case measure => simp [intOf] <;> omega
      · obtain rfl : k = n := by omega
        go_wp2
        go_ret
        exact ⟨ret_bool (eq_yes ha.1 hb.1 heq.out).symm, hbel⟩
  · go_enter Try.func26, Try.ntmps26
    have h1 : ((n : Int) != (m : Int)) = true := by simp; omega
    go_wp2
    go_ret
    exact ⟨ret_bool (by unfold eqB; symm; simp; rintro rfl; exact hnm (ha.1.symm.trans hb.1)), Below.refl _ _⟩
theorem sum01 {xs : List Int} (h : allIn 0 1 xs = true) : 0 ≤ sumL xs ∧ sumL xs ≤ xs.length := by
  induction xs with
  | nil => simp [sumL]
  | cons x r ih =>
    obtain ⟨h1, h2⟩ := allIn_cons.1 h
    have := ih h2
    show 0 ≤ x + sumL r ∧ x + sumL r ≤ ((r.length + 1 : Nat) : Int)
    omega
def inL (n : Int) (xs : List Int) : Bool := decide (n ∈ xs)
theorem inL_step {xs : List Int} {k : Nat} {x n : Int} (hx : xs[k]? = some x) (h : n ∉ xs.take k) (e : x ≠ n) : n ∉ xs.take (k + 1) := by
  rw [List.take_add_one, hx]; simp [h]; exact fun q => e q.symm
theorem pIn_any (w : World) (B : Nat) (ao : Option Addr) (n c : Nat) (xs : List Int) (z : Int) (ha : Ints w B ao n xs) :
    Calls Try.prog 35 #[.slice ao n c, .int .i64 z] w fun e w' => e = .returned (.bool (inL z xs)) ∧ w = w' := by
  have hn := ha.le
  have hl := Lib.hid ha.1
  go_enter Try.func35, Try.ntmps35
  go_wp2
  go_loop [9] (fun i => ∃ k : Nat, k ≤ n ∧ i = .int .i64 k ∧ Hid (z ∉ xs.take k)) (fun i => n - (intOf i).toNat)
  case atStart => exact ⟨0, Nat.zero_le _, rfl, by simp [Hid]⟩
  case round =>
    obtain ⟨k, hk, rfl, heq⟩ := hrel
    by_cases hlt : k < n
    · obtain ⟨b1, o1, x, rfl, hb1, hx, hc1⟩ := ha.at hlt
      have HX := Lib.hid hx
      clear hx
      by_cases he : x = z
      · subst he
        go_wp2
        go_ret
        exact ⟨ret_bool (by unfold inL; symm; simp; exact List.mem_of_getElem? HX.out), rfl⟩
      · go_wp2
        go_round
        case rel => exact ⟨k + 1, by omega, by go_num, inL_step HX.out heq.out he⟩
        case measure => simp [intOf] <;> omega
    · obtain rfl : k = n := by omega
      go_wp2
      go_ret
      exact ⟨ret_bool (by have h := heq.out; rw [List.take_of_length_le (by rw [hl.out]; exact Nat.le_refl _)] at h; simp [inL, h]), rfl⟩
end Go.Proofs.Ytilkgidilhgjeaa
