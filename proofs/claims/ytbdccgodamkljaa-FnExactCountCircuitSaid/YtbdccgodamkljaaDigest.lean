/-
  Chapter 3, digests: copies of lists, residues, the digest of a list, labels, numbers from words.
-/
import Derived.Test.YtbdccgodamkljaaAll
import Derived.Lib.SliceRun
namespace Go.Proofs.Ytbdccgodamkljaa
open Go.RowKit

/-! ### Copies -/
theorem l1Own_any (w : World) (B : Nat) (ao : Option Addr) (n c : Nat) (xs : List Int) (ha : Ints w B ao n xs) (hB : B ≤ w.heap.size) (hn : n ≤ 2000000) :
    Calls Try.prog 120 #[.slice ao n c] w (RetI xs w) := by
  have hb0 : Below w.heap.size w (w.alloc (.cells #[] 3)) := (Below.refl _ _).alloc (Nat.le_refl _) _
  have ha1 := ha.below hb0 hB
  go_enter Try.func120, Try.ntmps120
  go_wp2_with (at_builtin; refine wpList_append_is rfl _ _ rfl w.heap.size _ _ _ [] _ _ _ _ _ rfl rfl (OwnI.nil _ _ _) ha1 (by omega) (by simp) ?_; intro ao' cap' w1 hown1 hg1)
  go_ret
  exact ⟨_, _, _, rfl, by simpa using hown1, hb0.grown hg1 (by simp) (by simp [rowOf])⟩
theorem cloneI_any (w : World) (B : Nat) (ao : Option Addr) (n c : Nat) (xs : List Int) (ha : Ints w B ao n xs) (hB : B ≤ w.heap.size) (hn : n ≤ 2000000) :
    Calls Try.prog 122 #[.slice ao n c] w (RetI xs w) := by
  have hnil := fun (W : World) (a : Option Addr) => Lib.run_eql_slice_nil (P := Try.prog) W 23 3 a n c 0 0 Try.underlying23
  have hl := Lib.hid ha.1
  cases ao with
  | none =>
    have hn0 : n = 0 := by
      rcases Nat.eq_zero_or_pos n with h | h
      · exact h
      · obtain ⟨b, off, x, h1, _⟩ := ha.at h
        cases h1
    subst hn0
    have hx : xs = [] := List.eq_nil_of_length_eq_zero hl.out
    subst hx
    go_enter Try.func122, Try.ntmps122
    go_wp2_with fail
    go_ret
    exact ⟨_, _, _, rfl, OwnI.nil _ _ _, Below.refl _ _⟩
  | some a =>
    have hb0 : Below w.heap.size w (w.alloc (.cells #[] 3)) := (Below.refl _ _).alloc (Nat.le_refl _) _
    have ha1 := ha.below hb0 hB
    go_enter Try.func122, Try.ntmps122
    go_wp2_with (at_builtin; refine wpList_append_is rfl _ _ rfl w.heap.size _ _ _ [] _ _ _ _ _ rfl rfl (OwnI.nil _ _ _) ha1 (by omega) (by simp) ?_; intro ao' cap' w1 hown1 hg1)
    go_ret
    exact ⟨_, _, _, rfl, by simpa using hown1, hb0.grown hg1 (by simp) (by simp [rowOf])⟩
/-- A copy with further numbers. -/
theorem with_any (w : World) (B C : Nat) (ao bo : Option Addr) (n m c d : Nat) (xs ys : List Int) (ha : Ints w B ao n xs) (hb : Ints w C bo m ys) (hB : B ≤ w.heap.size) (hC : C ≤ w.heap.size) (hn : n ≤ 2000000) (hm : m ≤ 2000000) :
    Calls Try.prog 92 #[.slice ao n c, .slice bo m d] w (RetI (xs ++ ys) w) := by
  go_enter Try.func92, Try.ntmps92
  go_wp2_with fail
  refine (cloneI_any _ _ _ _ _ _ ha hB hn).mono ?_
  rintro e w1 ⟨a1, n1, c1, rfl, ho1, hb1⟩
  have hn1 : n1 = n := ho1.1.symm.trans ha.1
  have hb2 := hb.below hb1 hC
  have hn1' : n1 ≤ 2000000 := by omega
  clear hn1
  go_wp2_with (at_builtin; refine wpList_append_is rfl _ _ rfl w.heap.size _ _ _ _ _ _ _ _ _ rfl rfl ho1 hb2 (by omega) hb1.size ?_; intro ao' cap' w2 hown2 hg2)
  go_ret
  exact ⟨_, _, _, rfl, hown2, below_append hb1 ho1.2.2 hg2 hb1.size⟩

/-! ### Residues -/
theorem tmod_fix (a m : Int) (hm : 0 < m) : (a.tmod m + m) % m = a % m ∧ 0 ≤ a.tmod m + m ∧ a.tmod m + m < 2 * m := by
  have h1 := Int.tmod_add_mul_tdiv a m
  have h2 : -m < a.tmod m ∧ a.tmod m < m := ⟨by have := Int.lt_tmod_of_pos a hm; omega, Int.tmod_lt_of_pos a hm⟩
  refine ⟨?_, by omega, by omega⟩
  have h3 : a % m = (a.tmod m + m * (a.tdiv m)) % m := by rw [h1]
  rw [h3, Int.add_mul_emod_self_left, Int.add_emod_right]
/-! ### The digest -/
def mixStep (a x : Int) : Int := (25214 * a + x + 17) % 1000003 * ((25214 * a + x + 17) % 1000003 / 64 + 5) % 1000003
def mixL (xs : List Int) : Int := ((xs ++ [8, 1]).foldl mixStep (40503 + xs.length)) % 65536
theorem mix_take {xs : List Int} {k : Nat} {x : Int} (hx : xs[k]? = some x) (a : Int) : (xs.take (k + 1)).foldl mixStep a = mixStep ((xs.take k).foldl mixStep a) x := by
  rw [List.take_add_one, hx]; simp
theorem mixStep_bd (a x : Int) : 0 ≤ mixStep a x ∧ mixStep a x < 1000003 := by unfold mixStep; omega
theorem mix_bd (xs : List Int) (a : Int) (ha : 0 ≤ a ∧ a < 1000003) : 0 ≤ xs.foldl mixStep a ∧ xs.foldl mixStep a < 1000003 := by
  rcases xs.eq_nil_or_concat with rfl | ⟨ys, y, rfl⟩
  · exact ha
  · rw [List.concat_eq_append, List.foldl_append]; exact mixStep_bd _ _
theorem mixL_bd (xs : List Int) : 0 ≤ mixL xs ∧ mixL xs ≤ 65535 := by unfold mixL; omega
theorem prod_bd {b : Int} (h0 : 0 ≤ b) (h1 : b < 1000003) : 0 ≤ b * (b / 64 + 5) ∧ b * (b / 64 + 5) ≤ 20000000000 := by
  constructor
  · exact Int.mul_nonneg h0 (by omega)
  · have := Int.mul_le_mul (show b ≤ 1000003 by omega) (show b / 64 + 5 ≤ 15631 by omega) (by omega) (by decide)
    omega
/-- Words: numbers whose size is bounded. -/
def wordB (x : Int) : Bool := inB x (-1000000000) 1000000000
def wordsB (xs : List Int) (most : Int) : Bool := decide ((xs.length : Int) ≤ most) && allIn (-1000000000) 1000000000 xs
theorem wordsB_iff {xs : List Int} {m : Int} : wordsB xs m = true ↔ (xs.length : Int) ≤ m ∧ allIn (-1000000000) 1000000000 xs = true := by simp [wordsB]
theorem words_add {xs ys : List Int} (hx : allIn (-1000000000) 1000000000 xs = true) (hy : allIn (-1000000000) 1000000000 ys = true) : allIn (-1000000000) 1000000000 (xs ++ ys) = true := by
  simp [allIn] at *; exact ⟨hx, hy⟩

/-! ### Tests and callers -/
def digestF (xs : List Int) : Int × Bool := if wordsB xs 12 = true then (mixL xs, true) else (0, false)
theorem ints_lit (w : World) (xs : List Int) (h : xs.length ≤ 1000000000) : Ints (w.alloc (.cells (xs.map (Value.int .i64)).toArray 3)) (w.alloc (.cells (xs.map (Value.int .i64)).toArray 3)).heap.size (some ⟨w.heap.size, 0, none⟩) xs.length xs :=
  ⟨rfl, h, by have := cellsAt_new w (xs.map (Value.int .i64)) 3; simpa using this⟩
def labelF (k t a b : Int) : Int × Bool := digestF [k, t, a, b]
theorem words4 (k t a b : Int) (m : Int) (hm : 4 ≤ m) : wordsB [k, t, a, b] m = wordsB [k, t, a, b] 12 := by
  unfold wordsB
  rw [decide_eq_true (by simpa using hm), decide_eq_true (by simp)]
end Go.Proofs.Ytbdccgodamkljaa
