/-
  Chapter 1, second part: the word of a number, weights, parities, signed numbers.
-/
import Derived.Test.YtnpndpmelgfmbaaBits1
namespace Go.Proofs.Ytnpndpmelgfmbaa
open Go.RowKit

def btOfL : Nat → Nat → List Int
  | _, 0 => []
  | n, k + 1 => ((n % 2 : Nat) : Int) :: btOfL (n / 2) k
theorem btOf_snoc (n k : Nat) : btOfL n (k + 1) = btOfL n k ++ [((n / 2 ^ k % 2 : Nat) : Int)] := by
  induction k generalizing n with
  | zero => simp [btOfL]
  | succ k ih =>
    rw [btOfL, ih (n / 2), btOfL, List.cons_append, Nat.div_div_eq_div_mul, Nat.pow_succ, Nat.mul_comm 2]
theorem btOfL_length (n k : Nat) : (btOfL n k).length = k := by induction k generalizing n <;> simp [btOfL, *]

theorem btOf_any (w : World) (v wd : Nat) (hw : wd ≤ 64) (hv : v ≤ 1000000000) :
    Calls Try.prog 131 #[.int .i64 v, .int .i64 wd] w (RetI (btOfL v wd) w) := by
  go_enter Try.func131, Try.ntmps131
  go_wp2
  go_loopw [0, 1, 5] (fun a r out wr => ∃ (k : Nat) (ao : Option Addr) (cap : Nat), k ≤ wd ∧ a = .int .i64 ((v / 2 ^ k : Nat) : Int) ∧ r = .int .i64 ((wd : Int) - k) ∧ out = .slice ao k cap ∧ OwnI w.heap.size wr ao k cap (btOfL v k) ∧ Below w.heap.size w wr)
    (fun _ r _ _ => (intOf r).toNat)
  case atStart => exact ⟨0, none, 0, Nat.zero_le _, by simp, by simp, rfl, OwnI.nil _ _ _, Below.refl _ _⟩
  case round =>
    obtain ⟨k, ao, cap, hk, rfl, rfl, rfl, hown, hbel⟩ := hrel
    by_cases hlt : k < wd
    · obtain ⟨q, hq⟩ : ∃ q, q = v / 2 ^ k := ⟨_, rfl⟩
      have hq2 : v / 2 ^ (k + 1) = q / 2 := by rw [hq, Nat.pow_succ, Nat.div_div_eq_div_mul]
      have hq3 : q ≤ 1000000000 := by rw [hq]; exact Nat.le_trans (Nat.div_le_self _ _) hv
      have HS : Hid (btOfL v (k + 1) = btOfL v k ++ [((q % 2 : Nat) : Int)]) := by rw [hq]; exact btOf_snoc v k
      rw [← hq]
      have H2 := Lib.hid hq2
      clear hq hq2
      have hsz := hbel.size
      go_wp2_with (at_builtin; refine wpList_append_i rfl _ _ rfl w.heap.size _ _ _ _ _ rfl rfl hown (by omega) hbel.size ?_; intro ao' cap' w1 hown1 hg1)
      have hb1 := below_append hbel hown.2.2 hg1 hsz
      go_roundw
      case rel => exact ⟨k + 1, ao', cap', by omega, by rw [H2.out]; go_num, by go_num, rfl, by rw [HS.out]; exact hown1, hb1⟩
      case measure => simp [intOf] <;> omega
    · obtain rfl : k = wd := by omega
      go_wp2
      go_ret
      exact ⟨_, _, _, rfl, hown, hbel⟩

theorem bit_at (v k : Nat) (hv : v ≤ 1000000000) : bits .and .i64 ((v : Int) / 2 ^ k) 1 = ((v / 2 ^ k % 2 : Nat) : Int) := by
  have h1 : (v : Int) / 2 ^ k = ((v / 2 ^ k : Nat) : Int) := by simp
  rw [h1, show (1 : Int) = ((1 : Nat) : Int) from rfl, i64_and_nat _ _ (by have := Nat.div_le_self v (2 ^ k); omega) (by decide), nat_mask1]
theorem bitsOf_any (w : World) (v wd : Nat) (hw : wd ≤ 62) (hv : v ≤ 1000000000) :
    Calls Try.prog 104 #[.int .i64 v, .int .i64 wd] w (RetI (btOfL v wd) w) := by
  go_enter Try.func104, Try.ntmps104
  go_wp2
  go_loopw [5, 9] (fun out i wr => ∃ (k : Nat) (ao : Option Addr) (cap : Nat), k ≤ wd ∧ i = .int .i64 k ∧ out = .slice ao k cap ∧ OwnI w.heap.size wr ao k cap (btOfL v k) ∧ Below w.heap.size w wr)
    (fun _ i _ => wd - (intOf i).toNat)
  case atStart => exact ⟨0, _, 0, Nat.zero_le _, rfl, rfl, OwnI.nil _ _ _, (Below.refl _ _).alloc (Nat.le_refl _) _⟩
  case round =>
    obtain ⟨k, ao, cap, hk, rfl, rfl, hown, hbel⟩ := hrel
    by_cases hlt : k < wd
    · have hbit := bit_at v k hv
      have HS := Lib.hid (btOf_snoc v k)
      have hsz := hbel.size
      go_wp2_with (at_builtin; refine wpList_append_i rfl _ _ rfl w.heap.size _ _ _ _ _ rfl rfl hown (by omega) hbel.size ?_; intro ao' cap' w1 hown1 hg1)
      have hb1 := below_append hbel hown.2.2 hg1 hsz
      go_roundw
      case rel => exact ⟨k + 1, ao', cap', by omega, by go_num, rfl, by rw [HS.out]; simpa using hown1, hb1⟩
      case measure => simp [intOf] <;> omega
    · obtain rfl : k = wd := by omega
      go_wp2
      go_ret
      exact ⟨_, _, _, rfl, hown, hbel⟩

/-- What BitsOf answers. -/
def btWordB (n w : Int) : Bool := inB w 0 16 && inB n 0 (2 ^ w.toNat - 1)
def bitsOfF (n w : Int) : List Int × Bool := if btWordB n w = true then (btOfL n.toNat w.toNat, true) else ([], false)
theorem pow16 (k : Nat) (h : k ≤ 16) : (1 : Int) ≤ 2 ^ k ∧ (2 : Int) ^ k ≤ 65536 := ⟨by have : (0 : Int) < 2 ^ k := Int.pow_pos (by decide); omega, pow_le_16 h⟩
theorem wrap_pow16 (k : Nat) (h : k ≤ 16) : wrap64 (2 ^ k) = 2 ^ k := IntWalk.wrap64_in _ ⟨by have := pow16 k h; omega, by have := pow16 k h; omega⟩
theorem btWord_any (n wd : Int) (w : World) : Calls Try.prog 130 #[.int .i64 n, .int .i64 wd] w fun e w' => e = .returned (.bool (btWordB n wd)) ∧ w = w' := by
  cases h : inB wd 0 16
  · go_enter Try.func130, Try.ntmps130
    go_wp2_with (go_at_call 112; refine (l1In_any _ _ _ _).mono ?_; rintro e w' ⟨rfl, rfl⟩)
    go_ret
    exact ⟨ret_bool (by simp [btWordB, h]), rfl⟩
  · obtain ⟨h1, h2⟩ := inB_iff.1 h
    obtain ⟨k, rfl⟩ := Int.eq_ofNat_of_zero_le h1
    have hp := pow16 k (by omega)
    have hw := wrap_pow16 k (by omega)
    go_enter Try.func130, Try.ntmps130
    go_wp2_with (go_at_call 112; refine (l1In_any _ _ _ _).mono ?_; rintro e w' ⟨rfl, rfl⟩)
    go_ret
    exact ⟨ret_bool (by simp [btWordB, h]), rfl⟩

theorem ownI_nil (w w' : World) : OwnI w.heap.size w' none 0 0 [] := OwnI.nil _ _ _
theorem spec_BitsOf_any (n wd : Int) (w : World) : Calls Try.prog 53 #[.int .i64 n, .int .i64 wd] w (RetIB (bitsOfF n wd) w) := by
  cases h : btWordB n wd
  · go_enter Try.func53, Try.ntmps53
    go_wp2_with (go_at_call 130; refine (btWord_any _ _ _).mono ?_; rintro e w' ⟨rfl, rfl⟩)
    go_ret2
    exact ⟨none, 0, 0, by simp [bitsOfF, h], by simpa [bitsOfF, h] using ownI_nil _ _, Below.refl _ _⟩
  · have h' := h
    simp only [btWordB, Bool.and_eq_true, inB_iff] at h'
    obtain ⟨⟨a1, a2⟩, a3, a4⟩ := h'
    obtain ⟨k, rfl⟩ := Int.eq_ofNat_of_zero_le a1
    obtain ⟨v, rfl⟩ := Int.eq_ofNat_of_zero_le a3
    have hp := pow16 k (by omega)
    simp only [Int.toNat_natCast] at a4
    clear a1 a3
    go_enter Try.func53, Try.ntmps53
    go_wp2_with (first | (go_at_call 130; refine (btWord_any _ _ _).mono ?_; rintro e w' ⟨rfl, rfl⟩) | (go_at_call 131; refine (btOf_any _ _ _ (by omega) (by omega)).mono ?_; rintro e w1 ⟨ao, n1, c1, rfl, ho, hb⟩))
    go_ret2
    exact ⟨ao, n1, c1, by simp [bitsOfF, h], by simpa [bitsOfF, h] using ho, hb⟩
theorem impl_BitsOf_any (n wd : Int) (w : World) : Calls Try.prog 26 #[.int .i64 n, .int .i64 wd] w (RetIB (bitsOfF n wd) w) := by
  cases h1 : inB wd 0 16
  · go_enter Try.func26, Try.ntmps26
    go_wp2_with (go_at_call 103; refine (within_any _ _ _ _).mono ?_; rintro e w' ⟨rfl, rfl⟩)
    go_ret2
    exact ⟨none, 0, 0, by simp [bitsOfF, btWordB, h1], by simpa [bitsOfF, btWordB, h1] using ownI_nil _ _, Below.refl _ _⟩
  · have h1' := h1
    rw [inB_iff] at h1'
    obtain ⟨a1, a2⟩ := h1'
    obtain ⟨k, rfl⟩ := Int.eq_ofNat_of_zero_le a1
    have hp := pow16 k (by omega)
    have hw := wrap_pow16 k (by omega)
    cases h2 : inB n 0 (2 ^ k - 1)
    · go_enter Try.func26, Try.ntmps26
      go_wp2_with (go_at_call 103; refine (within_any _ _ _ _).mono ?_; rintro e w' ⟨rfl, rfl⟩)
      go_ret2
      exact ⟨none, 0, 0, by simp [bitsOfF, btWordB, h2], by simpa [bitsOfF, btWordB, h2] using ownI_nil _ _, Below.refl _ _⟩
    · have h2' := h2
      rw [inB_iff] at h2'
      obtain ⟨a3, a4⟩ := h2'
      obtain ⟨v, rfl⟩ := Int.eq_ofNat_of_zero_le a3
      clear a1 a3
      go_enter Try.func26, Try.ntmps26
      go_wp2_with (first | (go_at_call 103; refine (within_any _ _ _ _).mono ?_; rintro e w' ⟨rfl, rfl⟩) | (go_at_call 104; refine (bitsOf_any _ _ _ (by omega) (by omega)).mono ?_; rintro e w1 ⟨ao, n1, c1, rfl, ho, hb⟩))
      go_ret2
      exact ⟨ao, n1, c1, by simp [bitsOfF, btWordB, h1, h2], by simpa [bitsOfF, btWordB, h1, h2] using ho, hb⟩

/-- Sums. -/
def sumL (xs : List Int) : Int := xs.foldr (· + ·) 0
theorem sumL_append (xs : List Int) (x : Int) : sumL (xs ++ [x]) = sumL xs + x := by
  induction xs with
  | nil => simp [sumL]
  | cons y ys ih => rw [List.cons_append]; show y + sumL (ys ++ [x]) = y + sumL ys + x; rw [ih]; omega
theorem sumL_take {xs : List Int} {k : Nat} {x : Int} (hx : xs[k]? = some x) : sumL (xs.take (k + 1)) = sumL (xs.take k) + x := by
  rw [List.take_add_one, hx]; exact sumL_append _ _
theorem sumL_bits {xs : List Int} (h : allIn 0 1 xs = true) : 0 ≤ sumL xs ∧ sumL xs ≤ xs.length := by
  induction xs with
  | nil => simp [sumL]
  | cons x xs ih =>
    have h1 := allIn_iff.1 h
    have hx := h1 x (by simp)
    have := ih (allIn_iff.2 fun y hy => h1 y (by simp [hy]))
    show 0 ≤ x + sumL xs ∧ x + sumL xs ≤ _
    rw [List.length_cons]
    omega
theorem allIn_take {lo hi : Int} {xs : List Int} (h : allIn lo hi xs = true) (k : Nat) : allIn lo hi (xs.take k) = true :=
  allIn_iff.2 fun x hx => allIn_iff.1 h x (List.mem_of_mem_take hx)
theorem sumOf_any (w : World) (B : Nat) (ao : Option Addr) (n c : Nat) (xs : List Int) (ha : Ints w B ao n xs) (hn : n ≤ 64) (hb : allIn 0 1 xs = true) :
    Calls Try.prog 114 #[.slice ao n c] w fun e w' => e = .returned (.int .i64 (sumL xs)) ∧ w = w' := by
  have hl := Lib.hid ha.1
  have HB := Lib.hid hb
  clear hb
  go_enter Try.func114, Try.ntmps114
  go_wp2
  go_loop [3, 8] (fun a i => ∃ k : Nat, k ≤ n ∧ i = .int .i64 k ∧ a = .int .i64 (sumL (xs.take k))) (fun _ i => n - (intOf i).toNat)
  case atStart => exact ⟨0, Nat.zero_le _, rfl, rfl⟩
  case round =>
    obtain ⟨k, hk, rfl, rfl⟩ := hrel
    by_cases hlt : k < n
    · obtain ⟨b1, o1, x, rfl, hb1, hx, hc1⟩ := ha.at hlt
      have hs := sumL_bits (allIn_take HB.out k)
      have hl2 : (xs.take k).length ≤ 64 := by simp; omega
      have hxb := allIn_iff.1 HB.out x (List.mem_of_getElem? hx)
      have HD := Lib.hid (sumL_take hx)
      obtain ⟨q, hq⟩ : ∃ q, q = sumL (xs.take k) := ⟨_, rfl⟩
      rw [← hq] at hs ⊢
      have HQ := Lib.hid hq
      clear hx hq
      go_wp2
      go_round
      case rel => exact ⟨k + 1, by omega, by go_num, by rw [HD.out, HQ.out]⟩
      case measure => simp [intOf] <;> omega
    · obtain rfl : k = n := by omega
      go_wp2
      go_ret
      exact ⟨ret_int (by rw [List.take_of_length_le (by rw [hl.out]; exact Nat.le_refl _)]), rfl⟩
def weightF (xs : List Int) : Int × Bool := if goodB xs 64 = true then (sumL xs, true) else (0, false)
theorem impl_WeightOf_any (w : World) (ao : Option Addr) (n c : Nat) (xs : List Int) (ha : Ints w w.heap.size ao n xs) :
    Calls Try.prog 37 #[.slice ao n c] w (RetNB (weightF xs) w) := by
  have hn := ha.le
  have hl := Lib.hid ha.1
  cases hg : goodB xs 64
  · go_enter Try.func37, Try.ntmps37
    go_wp2_with (go_at_call 24; refine (impl_AreBits_any _ _ _ _ _ ha).mono ?_; rintro e w' ⟨rfl, hb⟩)
    go_ret2
    exact ⟨by simp [weightF, hg], hb⟩
  · have h2 := goodB_iff.1 hg
    rw [hl.out] at h2
    have H2 := Lib.hid h2
    clear h2
    go_enter Try.func37, Try.ntmps37
    go_wp2_with (first | (go_at_call 24; refine (impl_AreBits_any _ _ _ _ _ ha).mono ?_; rintro e w' ⟨rfl, hb⟩; have ha' := ha.below hb (Nat.le_refl _)) | (go_at_call 114; refine (sumOf_any _ _ _ _ _ _ ha' (by have := H2.out.1; omega) H2.out.2).mono ?_; rintro e w' ⟨rfl, rfl⟩))
    go_ret2
    exact ⟨by simp [weightF, hg], hb⟩

/-! ### Parities -/
def parK (xs ys : List Int) (k : Nat) : Int := (((xs.zip ys).take k).foldl (fun s q => s + q.1 * q.2) 0) % 2
theorem parK_bd (xs ys : List Int) (k : Nat) : 0 ≤ parK xs ys k ∧ parK xs ys k ≤ 1 := by unfold parK; omega
theorem parK_step {xs ys : List Int} {k : Nat} {x y : Int} (hx : xs[k]? = some x) (hy : ys[k]? = some y) : parK xs ys (k + 1) = (parK xs ys k + x * y) % 2 := by
  have hz : (xs.zip ys)[k]? = some (x, y) := by rw [List.getElem?_zip_eq_some]; exact ⟨hx, hy⟩
  unfold parK
  rw [List.take_add_one, hz]
  simp
theorem bit_xa {p x y : Int} (hp : 0 ≤ p ∧ p ≤ 1) (hx : 0 ≤ x ∧ x ≤ 1) (hy : 0 ≤ y ∧ y ≤ 1) : bits .xor .i64 p (bits .and .i64 x y) = (p + x * y) % 2 := by
  rcases (show p = 0 ∨ p = 1 by omega) with rfl | rfl <;> rcases (show x = 0 ∨ x = 1 by omega) with rfl | rfl <;> rcases (show y = 0 ∨ y = 1 by omega) with rfl | rfl <;> decide
theorem btParity_any (w : World) (B C : Nat) (ao bo : Option Addr) (n c d : Nat) (xs ys : List Int) (ha : Ints w B ao n xs) (hb : Ints w C bo n ys) (hn : n ≤ 64) (hxb : allIn 0 1 xs = true) (hyb : allIn 0 1 ys = true) :
    Calls Try.prog 129 #[.slice ao n c, .slice bo n d] w fun e w' => e = .returned (.int .i64 (parK xs ys n)) ∧ w = w' := by
  have HX := Lib.hid hxb
  have HY := Lib.hid hyb
  clear hxb hyb
  go_enter Try.func129, Try.ntmps129
  go_wp2
  go_loop [5, 10] (fun a i => ∃ k : Nat, k ≤ n ∧ i = .int .i64 k ∧ a = .int .i64 (parK xs ys k)) (fun _ i => n - (intOf i).toNat)
  case atStart => exact ⟨0, Nat.zero_le _, rfl, rfl⟩
  case round =>
    obtain ⟨k, hk, rfl, rfl⟩ := hrel
    by_cases hlt : k < n
    · obtain ⟨b1, o1, x, rfl, hb1, hx, hc1⟩ := ha.at hlt
      obtain ⟨b2, o2, y, rfl, hb2, hy, hc2⟩ := hb.at hlt
      have hbit := bit_xa (parK_bd xs ys k) (allIn_iff.1 HX.out x (List.mem_of_getElem? hx)) (allIn_iff.1 HY.out y (List.mem_of_getElem? hy))
      have HS := Lib.hid (parK_step hx hy)
      clear hx hy
      go_wp2
      go_round
      case rel => exact ⟨k + 1, by omega, by go_num, by rw [HS.out]⟩
      case measure => simp [intOf] <;> omega
    · obtain rfl : k = n := by omega
      go_wp2
      go_ret
      exact ⟨rfl, rfl⟩
def parityF (xs ys : List Int) : Int × Bool := if (goodB xs 64 && goodB ys 64 && decide (xs.length = ys.length)) = true then (parK xs ys xs.length, true) else (0, false)
theorem spec_ParityOf_any (w : World) (B C : Nat) (ao bo : Option Addr) (n m c d : Nat) (xs ys : List Int) (ha : Ints w B ao n xs) (hb : Ints w C bo m ys) :
    Calls Try.prog 51 #[.slice ao n c, .slice bo m d] w (RetNB (parityF xs ys) w) := by
  have hn := ha.le
  have hm := hb.le
  have hl := Lib.hid ha.1
  have hl2 := Lib.hid hb.1
  cases hg : goodB xs 64
  · go_enter Try.func51, Try.ntmps51
    go_wp2_with (go_at_call 25; refine (spec_AreBits_any _ _ _ _ _ _ ha).mono ?_; rintro e w' ⟨rfl, rfl⟩)
    go_ret2
    exact ⟨by simp [parityF, hg], Below.refl _ _⟩
  cases hg2 : goodB ys 64
  · go_enter Try.func51, Try.ntmps51
    go_wp2_with fail
    refine (spec_AreBits_any _ _ _ _ _ _ ha).mono ?_
    rintro e w' ⟨rfl, rfl⟩
    go_wp2_with fail
    refine (spec_AreBits_any _ _ _ _ _ _ hb).mono ?_
    rintro e w' ⟨rfl, rfl⟩
    go_wp2_with fail
    go_ret2
    exact ⟨by simp [parityF, hg2], Below.refl _ _⟩
  by_cases hnm : n = m
  · subst hnm
    have h2 := goodB_iff.1 hg
    have h3 := goodB_iff.1 hg2
    rw [hl.out] at h2
    have H2 := Lib.hid h2
    have H3 := Lib.hid h3
    clear h2 h3
    go_enter Try.func51, Try.ntmps51
    go_wp2_with fail
    refine (spec_AreBits_any _ _ _ _ _ _ ha).mono ?_
    rintro e w' ⟨rfl, rfl⟩
    go_wp2_with fail
    refine (spec_AreBits_any _ _ _ _ _ _ hb).mono ?_
    rintro e w' ⟨rfl, rfl⟩
    go_wp2_with fail
    refine (btParity_any _ _ _ _ _ _ _ _ _ _ ha hb (by have := H2.out.1; omega) H2.out.2 H3.out.2).mono ?_
    rintro e w' ⟨rfl, rfl⟩
    go_wp2_with fail
    go_ret2
    exact ⟨by simp [parityF, hg, hg2, hl.out, hl2.out], Below.refl _ _⟩
  · have hnm' : ((n : Int) != (m : Int)) = true := by simp; omega
    go_enter Try.func51, Try.ntmps51
    go_wp2_with fail
    refine (spec_AreBits_any _ _ _ _ _ _ ha).mono ?_
    rintro e w' ⟨rfl, rfl⟩
    go_wp2_with fail
    refine (spec_AreBits_any _ _ _ _ _ _ hb).mono ?_
    rintro e w' ⟨rfl, rfl⟩
    go_wp2_with fail
    go_ret2
    exact ⟨by simp [parityF, hl.out, hl2.out, hnm], Below.refl _ _⟩
theorem impl_ParityOf_any (w : World) (ao bo : Option Addr) (n m c d : Nat) (xs ys : List Int) (ha : Ints w w.heap.size ao n xs) (hb : Ints w w.heap.size bo m ys) :
    Calls Try.prog 50 #[.slice ao n c, .slice bo m d] w (RetNB (parityF xs ys) w) := by
  have hn := ha.le
  have hm := hb.le
  have hl := Lib.hid ha.1
  have hl2 := Lib.hid hb.1
  cases hg : goodB xs 64
  · go_enter Try.func50, Try.ntmps50
    go_wp2_with (go_at_call 24; refine (impl_AreBits_any _ _ _ _ _ ha).mono ?_; rintro e w1 ⟨rfl, hb1⟩)
    go_ret2
    exact ⟨by simp [parityF, hg], hb1⟩
  cases hg2 : goodB ys 64
  · go_enter Try.func50, Try.ntmps50
    go_wp2_with fail
    refine (impl_AreBits_any _ _ _ _ _ ha).mono ?_
    rintro e w1 ⟨rfl, hb1⟩
    go_wp2_with fail
    refine (impl_AreBits_any _ _ _ _ _ ((hb.below hb1 (Nat.le_refl _)).up hb1.size)).mono ?_
    rintro e w2 ⟨rfl, hb2⟩
    go_wp2_with fail
    go_ret2
    exact ⟨by simp [parityF, hg2], hb1.trans (hb2.mono hb1.size)⟩
  by_cases hnm : n = m
  · subst hnm
    have h2 := goodB_iff.1 hg
    have h3 := goodB_iff.1 hg2
    rw [hl.out] at h2
    have H2 := Lib.hid h2
    have H3 := Lib.hid h3
    clear h2 h3
    go_enter Try.func50, Try.ntmps50
    go_wp2_with fail
    refine (impl_AreBits_any _ _ _ _ _ ha).mono ?_
    rintro e w1 ⟨rfl, hb1⟩
    go_wp2_with fail
    refine (impl_AreBits_any _ _ _ _ _ ((hb.below hb1 (Nat.le_refl _)).up hb1.size)).mono ?_
    rintro e w2 ⟨rfl, hb2⟩
    have hb12 := hb1.trans (hb2.mono hb1.size)
    go_wp2_with fail
    go_loopw [6, 25] (fun a i wr => ∃ k : Nat, k ≤ n ∧ i = .int .i64 k ∧ a = .int .i64 (parK xs ys k) ∧ Below w.heap.size w wr) (fun _ i _ => n - (intOf i).toNat)
    case atStart => exact ⟨0, Nat.zero_le _, rfl, rfl, hb12⟩
    case round =>
      obtain ⟨k, hk, rfl, rfl, hbel⟩ := hrel
      by_cases hlt : k < n
      · obtain ⟨b1, o1, x, rfl, hbl1, hx, hc1⟩ := ha.at hlt
        obtain ⟨b2, o2, y, rfl, hbl2, hy, hc2⟩ := hb.at hlt
        have g1 : wr.cell? ⟨b1, o1 + k, none⟩ = some (.int .i64 x) := (hbel.cell (by exact hbl1)).trans hc1
        have g2 : wr.cell? ⟨b2, o2 + k, none⟩ = some (.int .i64 y) := (hbel.cell (by exact hbl2)).trans hc2
        have hbit := bit_xa (parK_bd xs ys k) (allIn_iff.1 H2.out.2 x (List.mem_of_getElem? hx)) (allIn_iff.1 H3.out.2 y (List.mem_of_getElem? hy))
        have HS := Lib.hid (parK_step hx hy)
        clear hx hy
        go_wp2_with fail
        go_quiet (fail)
        go_wp2_with fail
        go_roundw
        case rel => exact ⟨k + 1, by omega, by go_num, by rw [HS.out], bdrewN hbel _⟩
        case measure => simp [intOf] <;> omega
      · obtain rfl : k = n := by omega
        go_wp2_with fail
        go_ret2
        exact ⟨by simp [parityF, hg, hg2, hl.out, hl2.out], hbel⟩
  · have hnm' : ((n : Int) != (m : Int)) = true := by simp; omega
    go_enter Try.func50, Try.ntmps50
    go_wp2_with fail
    refine (impl_AreBits_any _ _ _ _ _ ha).mono ?_
    rintro e w1 ⟨rfl, hb1⟩
    go_wp2_with fail
    refine (impl_AreBits_any _ _ _ _ _ ((hb.below hb1 (Nat.le_refl _)).up hb1.size)).mono ?_
    rintro e w2 ⟨rfl, hb2⟩
    go_wp2_with fail
    go_ret2
    exact ⟨by simp [parityF, hl.out, hl2.out, hnm], hb1.trans (hb2.mono hb1.size)⟩

/-! ### Signed numbers -/
def signedF (xs : List Int) : Int × Bool := if (goodB xs 16 && !(xs.length == 0)) = true then (numL xs - xs[xs.length - 1]?.getD 0 * 2 ^ xs.length, true) else (0, false)
theorem signedF_val {xs : List Int} {m : Nat} {x : Int} (hl : xs.length = m + 1) (hg : goodB xs 16 = true) (hx : xs[m]? = some x) : signedF xs = (numL xs - x * 2 ^ (m + 1), true) := by
  unfold signedF
  rw [hg, hl, Nat.add_sub_cancel, hx, if_pos (by simp)]
  rfl
theorem last_bd {x : Int} {n : Nat} (hx : 0 ≤ x ∧ x ≤ 1) (hn : n ≤ 16) : 0 ≤ x * 2 ^ n ∧ x * 2 ^ n ≤ 65536 := by
  have := pow16 n hn
  rcases (show x = 0 ∨ x = 1 by omega) with rfl | rfl <;> omega
theorem spec_SignedOf_any (w : World) (B : Nat) (ao : Option Addr) (n c : Nat) (xs : List Int) (ha : Ints w B ao n xs) :
    Calls Try.prog 29 #[.slice ao n c] w (RetNB (signedF xs) w) := by
  have hn := ha.le
  have hl := Lib.hid ha.1
  cases hg : goodB xs 16
  · go_enter Try.func29, Try.ntmps29
    go_wp2_with (go_at_call 99; refine (btGood_any _ _ _ _ _ _ _ ha).mono ?_; rintro e w' ⟨rfl, rfl⟩)
    go_ret2
    exact ⟨by simp [signedF, hg], Below.refl _ _⟩
  rcases n with _ | m
  · go_enter Try.func29, Try.ntmps29
    go_wp2_with (go_at_call 99; refine (btGood_any _ _ _ _ _ _ _ ha).mono ?_; rintro e w' ⟨rfl, rfl⟩)
    go_ret2
    exact ⟨by simp [signedF, hl.out], Below.refl _ _⟩
  · have h2 := goodB_iff.1 hg
    rw [hl.out] at h2
    obtain ⟨b1, o1, x, rfl, hb1, hx, hc1⟩ := ha.at (Nat.lt_succ_self m)
    have hlb := last_bd (n := m + 1) (allIn_iff.1 h2.2 x (List.mem_of_getElem? hx)) (by omega)
    have hs := numL_small hl.out (by omega) h2.2 0
    rw [List.drop_zero] at hs
    have hm16 : m + 1 ≤ 16 := by omega
    have H2 := Lib.hid h2
    have HX := Lib.hid hx
    clear h2 hx
    have e1 : IntKind.i64.wrap (x * 2 ^ (m + 1)) = x * 2 ^ (m + 1) := IntWalk.i64_in _ (by omega)
    have e2 : IntKind.i64.wrap (numL xs - x * 2 ^ (m + 1)) = numL xs - x * 2 ^ (m + 1) := IntWalk.i64_in _ (by omega)
    have hne : (((m + 1 : Nat) : Int) == 0) = false := by simp; omega
    go_enter Try.func29, Try.ntmps29
    go_wp2_with (go_at_call 99; refine (btGood_any _ _ _ _ _ _ _ ha).mono ?_; rintro e w' ⟨rfl, rfl⟩)
    go_quiet ((go_at_call 100; exact quiet_left (btNum_any _ _ _ _ _ _ (ha.drewN _) hm16 H2.out.2)))
    go_wp2_with fail
    go_ret2
    exact ⟨by rw [signedF_val hl.out hg HX.out]; rfl, bdrewN (Below.refl _ _) _⟩
theorem numberOfF_good {xs : List Int} (h : goodB xs 16 = true) : numberOfF xs = (numL xs, true) := by simp [numberOfF, h]
theorem numberOfF_bad {xs : List Int} (h : goodB xs 16 = false) : numberOfF xs = (0, false) := by simp [numberOfF, h]
theorem impl_SignedOf_any (w : World) (ao : Option Addr) (n c : Nat) (xs : List Int) (ha : Ints w w.heap.size ao n xs) :
    Calls Try.prog 28 #[.slice ao n c] w (RetNB (signedF xs) w) := by
  have hn := ha.le
  have hl := Lib.hid ha.1
  cases hg : goodB xs 16
  · have hF := numberOfF_bad hg
    go_enter Try.func28, Try.ntmps28
    go_wp2_with (go_at_call 22; refine (impl_NumberOf_any _ _ _ _ _ ha).mono ?_; rintro e w1 ⟨rfl, hb1⟩; rw [hF])
    go_ret2
    exact ⟨by simp [signedF, hg], hb1⟩
  have hF := numberOfF_good hg
  rcases n with _ | m
  · go_enter Try.func28, Try.ntmps28
    go_wp2_with (go_at_call 22; refine (impl_NumberOf_any _ _ _ _ _ ha).mono ?_; rintro e w1 ⟨rfl, hb1⟩; rw [hF])
    go_ret2
    exact ⟨by simp [signedF, hl.out], hb1⟩
  · have h2 := goodB_iff.1 hg
    rw [hl.out] at h2
    obtain ⟨b1, o1, x, rfl, hbl1, hx, hc1⟩ := ha.at (Nat.lt_succ_self m)
    have hlb := last_bd (n := m + 1) (allIn_iff.1 h2.2 x (List.mem_of_getElem? hx)) (by omega)
    have hs := numL_small hl.out (by omega) h2.2 0
    rw [List.drop_zero] at hs
    have hm16 : m + 1 ≤ 16 := by omega
    have HX := Lib.hid hx
    clear h2 hx
    have e1 : wrap64 (x * 2 ^ (m + 1)) = x * 2 ^ (m + 1) := IntWalk.wrap64_in _ ⟨by omega, by omega⟩
    have hne : (((m + 1 : Nat) : Int) == 0) = false := by simp; omega
    go_enter Try.func28, Try.ntmps28
    go_wp2_with fail
    refine (impl_NumberOf_any _ _ _ _ _ ha).mono ?_
    rintro e w1 ⟨rfl, hbb1⟩
    rw [hF]
    have g1 : w1.cell? ⟨b1, o1 + m, none⟩ = some (.int .i64 x) := (hbb1.cell (by exact hbl1)).trans hc1
    go_wp2_with fail
    go_ret2
    exact ⟨by rw [signedF_val hl.out hg HX.out]; rfl, hbb1⟩
end Go.Proofs.Ytnpndpmelgfmbaa
