/-
  Chapter 1, second part: the word of a number, weights, parities, signed numbers.
-/
import Derived.Test.YtilkgidilhgjeaaBits1
namespace Go.Proofs.Ytilkgidilhgjeaa
open Go.RowKit

def btOfL : Nat → Nat → List Int
  | _, 0 => []
  | n, k + 1 => ((n % 2 : Nat) : Int) :: btOfL (n / 2) k
theorem btOf_snoc (n k : Nat) : btOfL n (k + 1) = btOfL n k ++ [((n / 2 ^ k % 2 : Nat) : Int)] := by
  induction k generalizing n with
  | zero => simp [btOfL]
  | succ k ih =>
    rw [btOfL, ih (n / 2), btOfL, List.cons_append, Nat.div_div_eq_div_mul, Nat.pow_succ, Nat.mul_comm 2]
theorem btOfL_length (n k : Nat) : (btOfL n k).length = k := by induction k generalizing n <;> simp [btOfL, *]

theorem btOf_any (w : World) (v wd : Nat) (hw : wd ≤ 64) (hv : v ≤ 1000000000) :
    Calls Try.prog 112 #[.int .i64 v, .int .i64 wd] w (RetI (btOfL v wd) w) := by
  go_enter Try.func112, Try.ntmps112
  go_wp2
  go_loopw [0, 1, 5] (fun a r out wr => ∃ (k : Nat) (ao : Option Addr) (cap : Nat), k ≤ wd ∧ a = .int .i64 ((v / 2 ^ k : Nat) : Int) ∧ r = .int .i64 ((wd : Int) - k) ∧ out = .slice ao k cap ∧ OwnI w.heap.size wr ao k cap (btOfL v k) ∧ Below w.heap.size w wr)
    (fun _ r _ _ => (intOf r).toNat)
  case atStart => exact ⟨0, none, 0, Nat.zero_le _, by simp, by simp, rfl, OwnI.nil _ _ _, Below.refl _ _⟩
  case round =>
    obtain ⟨k, ao, cap, hk, rfl, rfl, rfl, hown, hbel⟩ := hrel
    by_cases hlt : k < wd
    · obtain ⟨q, hq⟩ : ∃ q, q = v / 2 ^ k := ⟨_, rfl⟩
      have hq2 : v / 2 ^ (k + 1) = q / 2 := by rw [hq, Nat.pow_succ, Nat.div_div_eq_div_mul]
      have hq3 : q ≤ 1000000000 := by rw [hq]; exact Nat.le_trans (Nat.div_le_self _ _) hv
      have HS : Hid (btOfL v (k + 1) = btOfL v k ++ [((q % 2 : Nat) : Int)]) := by rw [hq]; exact btOf_snoc v k
      rw [← hq]
      have H2 := Lib.hid hq2
      clear hq hq2
      have hsz := hbel.size
      go_wp2_with (at_builtin; refine wpList_append_i rfl _ _ rfl w.heap.size _ _ _ _ _ rfl rfl hown (by omega) hbel.size ?_; intro ao' cap' w1 hown1 hg1)
      have hb1 := below_append hbel hown.2.2 hg1 hsz
      go_roundw
      case rel => exact ⟨k + 1, ao', cap', by omega, by rw [H2.out]; go_num, by go_num, rfl, by rw [HS.out]; exact hown1, hb1⟩
      case measure => simp [intOf] <;> omega
    · obtain rfl : k = wd := by omega
      go_wp2
      go_ret
      exact ⟨_, _, _, rfl, hown, hbel⟩

theorem bit_at (v k : Nat) (hv : v ≤ 1000000000) : bits .and .i64 ((v : Int) / 2 ^ k) 1 = ((v / 2 ^ k % 2 : Nat) : Int) := by
  have h1 : (v : Int) / 2 ^ k = ((v / 2 ^ k : Nat) : Int) := by simp
  rw [h1, show (1 : Int) = ((1 : Nat) : Int) from rfl, i64_and_nat _ _ (by have := Nat.div_le_self v (2 ^ k); omega) (by decide), nat_mask1]
theorem bitsOf_any (w : World) (v wd : Nat) (hw : wd ≤ 62) (hv : v ≤ 1000000000) :
    Calls Try.prog 79 #[.int .i64 v, .int .i64 wd] w (RetI (btOfL v wd) w) := by
  go_enter Try.func79, Try.ntmps79
  go_wp2
  go_loopw [5, 9] (fun out i wr => ∃ (k : Nat) (ao : Option Addr) (cap : Nat), k ≤ wd ∧ i = .int .i64 k ∧ out = .slice ao k cap ∧ OwnI w.heap.size wr ao k cap (btOfL v k) ∧ Below w.heap.size w wr)
    (fun _ i _ => wd - (intOf i).toNat)
  case atStart => exact ⟨0, _, 0, Nat.zero_le _, rfl, rfl, OwnI.nil _ _ _, (Below.refl _ _).alloc (Nat.le_refl _) _⟩
  case round =>
    obtain ⟨k, ao, cap, hk, rfl, rfl, hown, hbel⟩ := hrel
    by_cases hlt : k < wd
    · have hbit := bit_at v k hv
      have HS := Lib.hid (btOf_snoc v k)
      have hsz := hbel.size
      go_wp2_with (at_builtin; refine wpList_append_i rfl _ _ rfl w.heap.size _ _ _ _ _ rfl rfl hown (by omega) hbel.size ?_; intro ao' cap' w1 hown1 hg1)
      have hb1 := below_append hbel hown.2.2 hg1 hsz
      go_roundw
      case rel => exact ⟨k + 1, ao', cap', by omega, by go_num, rfl, by rw [HS.out]; simpa using hown1, hb1⟩
      case measure => simp [intOf] <;> omega
    · obtain rfl : k = wd := by omega
      go_wp2
      go_ret
      exact ⟨_, _, _, rfl, hown, hbel⟩

/-- What BitsOf answers. -/
def btWordB (n w : Int) : Bool := inB w 0 16 && inB n 0 (2 ^ w.toNat - 1)
def bitsOfF (n w : Int) : List Int × Bool := if btWordB n w = true then (btOfL n.toNat w.toNat, true) else ([], false)
theorem pow16 (k : Nat) (h : k ≤ 16) : (1 : Int) ≤ 2 ^ k ∧ (2 : Int) ^ k ≤ 65536 := ⟨by have : (0 : Int) < 2 ^ k := Int.pow_pos (by decide); omega, pow_le_16 h⟩
theorem wrap_pow16 (k : Nat) (h : k ≤ 16) : wrap64 (2 ^ k) = 2 ^ k := IntWalk.wrap64_in _ ⟨by have := pow16 k h; omega, by have := pow16 k h; omega⟩
theorem ownI_nil (w w' : World) : OwnI w.heap.size w' none 0 0 [] := OwnI.nil _ _ _
/-- Sums. -/
def sumL (xs : List Int) : Int := xs.foldr (· + ·) 0
theorem sumL_append (xs : List Int) (x : Int) : sumL (xs ++ [x]) = sumL xs + x := by
  induction xs with
  | nil => simp [sumL]
  | cons y ys ih => rw [List.cons_append]; show y + sumL (ys ++ [x]) = y + sumL ys + x; rw [ih]; omega
theorem sumL_take {xs : List Int} {k : Nat} {x : Int} (hx : xs[k]? = some x) : sumL (xs.take (k + 1)) = sumL (xs.take k) + x := by
  rw [List.take_add_one, hx]; exact sumL_append _ _
theorem sumL_bits {xs : List Int} (h : allIn 0 1 xs = true) : 0 ≤ sumL xs ∧ sumL xs ≤ xs.length := by
  induction xs with
  | nil => simp [sumL]
  | cons x xs ih =>
    have h1 := allIn_iff.1 h
    have hx := h1 x (by simp)
    have := ih (allIn_iff.2 fun y hy => h1 y (by simp [hy]))
    show 0 ≤ x + sumL xs ∧ x + sumL xs ≤ _
    rw [List.length_cons]
    omega
theorem allIn_take {lo hi : Int} {xs : List Int} (h : allIn lo hi xs = true) (k : Nat) : allIn lo hi (xs.take k) = true :=
  allIn_iff.2 fun x hx => allIn_iff.1 h x (List.mem_of_mem_take hx)
def weightF (xs : List Int) : Int × Bool := if goodB xs 64 = true then (sumL xs, true) else (0, false)
/-! ### Parities -/
def parK (xs ys : List Int) (k : Nat) : Int := (((xs.zip ys).take k).foldl (fun s q => s + q.1 * q.2) 0) % 2
theorem parK_bd (xs ys : List Int) (k : Nat) : 0 ≤ parK xs ys k ∧ parK xs ys k ≤ 1 := by unfold parK; omega
theorem parK_step {xs ys : List Int} {k : Nat} {x y : Int} (hx : xs[k]? = some x) (hy : ys[k]? = some y) : parK xs ys (k + 1) = (parK xs ys k + x * y) % 2 := by
  have hz : (xs.zip ys)[k]? = some (x, y) := by rw [List.getElem?_zip_eq_some]; exact ⟨hx, hy⟩
  unfold parK
  rw [List.take_add_one, hz]
  simp
theorem bit_xa {p x y : Int} (hp : 0 ≤ p ∧ p ≤ 1) (hx : 0 ≤ x ∧ x ≤ 1) (hy : 0 ≤ y ∧ y ≤ 1) : bits .xor .i64 p (bits .and .i64 x y) = (p + x * y) % 2 := by
  rcases (show p = 0 ∨ p = 1 by omega) with rfl | rfl <;> rcases (show x = 0 ∨ x = 1 by omega) with rfl | rfl <;> rcases (show y = 0 ∨ y = 1 by omega) with rfl | rfl <;> decide
def parityF (xs ys : List Int) : Int × Bool := if (goodB xs 64 && goodB ys 64 && decide (xs.length = ys.length)) = true then (parK xs ys xs.length, true) else (0, false)
/-! ### Signed numbers -/
def signedF (xs : List Int) : Int × Bool := if (goodB xs 16 && !(xs.length == 0)) = true then (numL xs - xs[xs.length - 1]?.getD 0 * 2 ^ xs.length, true) else (0, false)
theorem signedF_val {xs : List Int} {m : Nat} {x : Int} (hl : xs.length = m + 1) (hg : goodB xs 16 = true) (hx : xs[m]? = some x) : signedF xs = (numL xs - x * 2 ^ (m + 1), true) := by
  unfold signedF
  rw [hg, hl, Nat.add_sub_cancel, hx, if_pos (by simp)]
  rfl
theorem last_bd {x : Int} {n : Nat} (hx : 0 ≤ x ∧ x ≤ 1) (hn : n ≤ 16) : 0 ≤ x * 2 ^ n ∧ x * 2 ^ n ≤ 65536 := by
  have := pow16 n hn
  rcases (show x = 0 ∨ x = 1 by omega) with rfl | rfl <;> omega
theorem numberOfF_good {xs : List Int} (h : goodB xs 16 = true) : numberOfF xs = (numL xs, true) := by simp [numberOfF, h]
theorem numberOfF_bad {xs : List Int} (h : goodB xs 16 = false) : numberOfF xs = (0, false) := by simp [numberOfF, h]
end Go.Proofs.Ytilkgidilhgjeaa
