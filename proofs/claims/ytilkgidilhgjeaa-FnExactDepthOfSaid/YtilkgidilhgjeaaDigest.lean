/-
  Chapter 3, digests: copies of lists, residues, the digest of a list, labels, numbers from words.
-/
import Derived.Test.YtilkgidilhgjeaaAll
import Derived.Lib.SliceRun
namespace Go.Proofs.Ytilkgidilhgjeaa
open Go.RowKit

/-! ### Copies -/
theorem l1Own_any (w : World) (B : Nat) (ao : Option Addr) (n c : Nat) (xs : List Int) (ha : Ints w B ao n xs) (hB : B ≤ w.heap.size) (hn : n ≤ 2000000) :
    Calls Try.prog 109 #[.slice ao n c] w (RetI xs w) := by
  have hb0 : Below w.heap.size w (w.alloc (.cells #[] 3)) := (Below.refl _ _).alloc (Nat.le_refl _) _
  have ha1 := ha.below hb0 hB
  go_enter Try.func109, Try.ntmps109
  go_wp2_with (at_builtin; refine wpList_append_is rfl _ _ rfl w.heap.size _ _ _ [] _ _ _ _ _ rfl rfl (OwnI.nil _ _ _) ha1 (by omega) (by simp) ?_; intro ao' cap' w1 hown1 hg1)
  go_ret
  exact ⟨_, _, _, rfl, by simpa using hown1, hb0.grown hg1 (by simp) (by simp [rowOf])⟩
theorem cloneI_any (w : World) (B : Nat) (ao : Option Addr) (n c : Nat) (xs : List Int) (ha : Ints w B ao n xs) (hB : B ≤ w.heap.size) (hn : n ≤ 2000000) :
    Calls Try.prog 108 #[.slice ao n c] w (RetI xs w) := by
  have hnil := fun (W : World) (a : Option Addr) => Lib.run_eql_slice_nil (P := Try.prog) W 35 3 a n c 0 0 Try.underlying35
  have hl := Lib.hid ha.1
  cases ao with
  | none =>
    have hn0 : n = 0 := by
      rcases Nat.eq_zero_or_pos n with h | h
      · exact h
      · obtain ⟨b, off, x, h1, _⟩ := ha.at h
        cases h1
    subst hn0
    have hx : xs = [] := List.eq_nil_of_length_eq_zero hl.out
    subst hx
    go_enter Try.func108, Try.ntmps108
    go_wp2_with fail
    go_ret
    exact ⟨_, _, _, rfl, OwnI.nil _ _ _, Below.refl _ _⟩
  | some a =>
    have hb0 : Below w.heap.size w (w.alloc (.cells #[] 3)) := (Below.refl _ _).alloc (Nat.le_refl _) _
    have ha1 := ha.below hb0 hB
    go_enter Try.func108, Try.ntmps108
    go_wp2_with (at_builtin; refine wpList_append_is rfl _ _ rfl w.heap.size _ _ _ [] _ _ _ _ _ rfl rfl (OwnI.nil _ _ _) ha1 (by omega) (by simp) ?_; intro ao' cap' w1 hown1 hg1)
    go_ret
    exact ⟨_, _, _, rfl, by simpa using hown1, hb0.grown hg1 (by simp) (by simp [rowOf])⟩
/-! ### Residues -/
theorem tmod_fix (a m : Int) (hm : 0 < m) : (a.tmod m + m) % m = a % m ∧ 0 ≤ a.tmod m + m ∧ a.tmod m + m < 2 * m := by
  have h1 := Int.tmod_add_mul_tdiv a m
  have h2 : -m < a.tmod m ∧ a.tmod m < m := ⟨by have := Int.lt_tmod_of_pos a hm; omega, Int.tmod_lt_of_pos a hm⟩
  refine ⟨?_, by omega, by omega⟩
  have h3 : a % m = (a.tmod m + m * (a.tdiv m)) % m := by rw [h1]
  rw [h3, Int.add_mul_emod_self_left, Int.add_emod_right]
theorem btMod_any (a m : Int) (w : World) (hm : 0 < m) (hm2 : m ≤ 4000000000) : Calls Try.prog 113 #[.int .i64 a, .int .i64 m] w fun e w' => e = .returned (.int .i64 (a % m)) ∧ w = w' := by
  obtain ⟨h1, h2, h3⟩ := tmod_fix a m hm
  have H1 := Lib.hid h1
  have hne : m ≠ 0 := by omega
  clear h1
  rcases Int.lt_or_le a 0 with ha | ha
  · go_enter Try.func113, Try.ntmps113
    go_wp2_with fail
    go_ret
    exact ⟨ret_int H1.out, rfl⟩
  · have e1 : a % m + m < 2 * m := by have := Int.emod_lt_of_pos a hm; omega
    have e2 : 0 ≤ a % m := Int.emod_nonneg a hne
    go_enter Try.func113, Try.ntmps113
    go_wp2_with fail
    go_ret
    exact ⟨ret_int (by simp), rfl⟩

/-! ### The digest -/
def mixStep (a x : Int) : Int := (25214 * a + x + 17) % 1000003 * ((25214 * a + x + 17) % 1000003 / 64 + 5) % 1000003
def mixL (xs : List Int) : Int := ((xs ++ [8, 1]).foldl mixStep (40503 + xs.length)) % 65536
theorem mix_take {xs : List Int} {k : Nat} {x : Int} (hx : xs[k]? = some x) (a : Int) : (xs.take (k + 1)).foldl mixStep a = mixStep ((xs.take k).foldl mixStep a) x := by
  rw [List.take_add_one, hx]; simp
theorem mixStep_bd (a x : Int) : 0 ≤ mixStep a x ∧ mixStep a x < 1000003 := by unfold mixStep; omega
theorem mix_bd (xs : List Int) (a : Int) (ha : 0 ≤ a ∧ a < 1000003) : 0 ≤ xs.foldl mixStep a ∧ xs.foldl mixStep a < 1000003 := by
  rcases xs.eq_nil_or_concat with rfl | ⟨ys, y, rfl⟩
  · exact ha
  · rw [List.concat_eq_append, List.foldl_append]; exact mixStep_bd _ _
theorem mixL_bd (xs : List Int) : 0 ≤ mixL xs ∧ mixL xs ≤ 65535 := by unfold mixL; omega
theorem prod_bd {b : Int} (h0 : 0 ≤ b) (h1 : b < 1000003) : 0 ≤ b * (b / 64 + 5) ∧ b * (b / 64 + 5) ≤ 20000000000 := by
  constructor
  · exact Int.mul_nonneg h0 (by omega)
  · have := Int.mul_le_mul (show b ≤ 1000003 by omega) (show b / 64 + 5 ≤ 15631 by omega) (by omega) (by decide)
    omega
/-- Words: numbers whose size is bounded. -/
def wordB (x : Int) : Bool := inB x (-1000000000) 1000000000
def wordsB (xs : List Int) (most : Int) : Bool := decide ((xs.length : Int) ≤ most) && allIn (-1000000000) 1000000000 xs
theorem wordsB_iff {xs : List Int} {m : Int} : wordsB xs m = true ↔ (xs.length : Int) ≤ m ∧ allIn (-1000000000) 1000000000 xs = true := by simp [wordsB]
theorem words_add {xs ys : List Int} (hx : allIn (-1000000000) 1000000000 xs = true) (hy : allIn (-1000000000) 1000000000 ys = true) : allIn (-1000000000) 1000000000 (xs ++ ys) = true := by
  simp [allIn] at *; exact ⟨hx, hy⟩

theorem dgMix_any (w : World) (ao : Option Addr) (n c : Nat) (xs : List Int) (ha : Ints w w.heap.size ao n xs) (hn : n ≤ 12) (hw : allIn (-1000000000) 1000000000 xs = true) :
    Calls Try.prog 84 #[.slice ao n c] w (RetN (mixL xs) w) := by
  have hl := Lib.hid ha.1
  have HW := Lib.hid (words_add hw (show allIn (-1000000000) 1000000000 [8, 1] = true by decide))
  clear hw
  go_enter Try.func84, Try.ntmps84
  go_wp2_with fail
  refine (l1Own_any _ _ _ _ _ _ ha (Nat.le_refl _) (by omega)).mono ?_
  rintro e w1 ⟨a1, n1, c1, rfl, ho1, hb1⟩
  have hn1 : n1 ≤ 12 := by have := ho1.1; rw [hl.out] at this; omega
  go_wp2_with (at_builtin; refine wpList_append_ii rfl _ _ rfl w.heap.size _ _ _ _ _ _ rfl rfl ho1 (by omega) hb1.size ?_; intro ao' cap' w2 hown2 hg2)
  have hb2 := below_append hb1 ho1.2.2 hg2 hb1.size
  have hI := hown2.ints
  go_loop [3, 14] (fun a i => ∃ k : Nat, k ≤ n1 + 2 ∧ i = .int .i64 k ∧ a = .int .i64 (((xs ++ [8, 1]).take k).foldl mixStep (40503 + n))) (fun _ i => n1 + 2 - (intOf i).toNat)
  case atStart => exact ⟨0, Nat.zero_le _, rfl, rfl⟩
  case round =>
    obtain ⟨k, hk, rfl, rfl⟩ := hrel
    by_cases hlt : k < n1 + 2
    · obtain ⟨b1, o1, x, rfl, hbl1, hx, hc1⟩ := hI.at hlt
      have hd := mix_bd ((xs ++ [8, 1]).take k) (40503 + n) (by omega)
      have hxb := allIn_iff.1 HW.out x (List.mem_of_getElem? hx)
      have HS := Lib.hid (mix_take hx (40503 + (n : Int)))
      obtain ⟨q, hq⟩ : ∃ q, q = ((xs ++ [8, 1]).take k).foldl mixStep (40503 + n) := ⟨_, rfl⟩
      rw [← hq] at hd ⊢
      have HQ := Lib.hid hq
      clear hx hq
      obtain ⟨r, hr⟩ : ∃ r, r = (25214 * q + x + 17) % 1000003 := ⟨_, rfl⟩
      have hrb : 0 ≤ r ∧ r < 1000003 := by omega
      have hp := prod_bd hrb.1 hrb.2
      have HR := Lib.hid hr
      clear hr
      go_wp2_with (go_at_call 113; refine (btMod_any _ _ _ (by decide) (by decide)).mono ?_; rintro e w' ⟨rfl, rfl⟩; rw [← HR.out])
      go_round
      case rel => exact ⟨k + 1, by omega, by go_num, by rw [HS.out, ← HQ.out, mixStep, ← HR.out]⟩
      case measure => simp [intOf] <;> omega
    · obtain rfl : k = n1 + 2 := by omega
      have hfb := mix_bd (xs ++ [8, 1]) (40503 + n) (by omega)
      have hfin : (xs ++ [8, 1]).take (n1 + 2) = xs ++ [8, 1] := List.take_of_length_le (by rw [hI.1]; exact Nat.le_refl _)
      rw [hfin]
      obtain ⟨q, hq⟩ : ∃ q, q = (xs ++ [8, 1]).foldl mixStep (40503 + n) := ⟨_, rfl⟩
      rw [← hq] at hfb ⊢
      have HQ := Lib.hid hq
      clear hq hfin
      go_wp2_with fail
      go_ret
      exact ⟨ret_int (by rw [mixL, hl.out, ← HQ.out]), hb2⟩
theorem digest_any (w : World) (ao : Option Addr) (n c : Nat) (xs : List Int) (ha : Ints w w.heap.size ao n xs) (hn : n ≤ 12) (hw : allIn (-1000000000) 1000000000 xs = true) :
    Calls Try.prog 86 #[.slice ao n c] w (RetN (mixL xs) w) := by
  have hl := Lib.hid ha.1
  have HW := Lib.hid (words_add hw (show allIn (-1000000000) 1000000000 [8, 1] = true by decide))
  clear hw
  go_enter Try.func86, Try.ntmps86
  go_wp2_with fail
  refine (cloneI_any _ _ _ _ _ _ ha (Nat.le_refl _) (by omega)).mono ?_
  rintro e w1 ⟨a1, n1, c1, rfl, ho1, hb1⟩
  have hn1 : n1 ≤ 12 := by have := ho1.1; rw [hl.out] at this; omega
  go_wp2_with (at_builtin; refine wpList_append_ii rfl _ _ rfl w.heap.size _ _ _ _ _ _ rfl rfl ho1 (by omega) hb1.size ?_; intro ao' cap' w2 hown2 hg2)
  have hb2 := below_append hb1 ho1.2.2 hg2 hb1.size
  have hI := hown2.ints
  go_loop [3, 14] (fun a i => ∃ k : Nat, k ≤ n1 + 2 ∧ i = .int .i64 k ∧ a = .int .i64 (((xs ++ [8, 1]).take k).foldl mixStep (40503 + n))) (fun _ i => n1 + 2 - (intOf i).toNat)
  case atStart => exact ⟨0, Nat.zero_le _, rfl, rfl⟩
  case round =>
    obtain ⟨k, hk, rfl, rfl⟩ := hrel
    by_cases hlt : k < n1 + 2
    · obtain ⟨b1, o1, x, rfl, hbl1, hx, hc1⟩ := hI.at hlt
      have hd := mix_bd ((xs ++ [8, 1]).take k) (40503 + n) (by omega)
      have hxb := allIn_iff.1 HW.out x (List.mem_of_getElem? hx)
      have HS := Lib.hid (mix_take hx (40503 + (n : Int)))
      obtain ⟨q, hq⟩ : ∃ q, q = ((xs ++ [8, 1]).take k).foldl mixStep (40503 + n) := ⟨_, rfl⟩
      rw [← hq] at hd ⊢
      have HQ := Lib.hid hq
      clear hx hq
      obtain ⟨t1, t2, t3⟩ := tmod_fix (25214 * q + x + 17) 1000003 (by decide)
      obtain ⟨r, hr⟩ : ∃ r, r = (25214 * q + x + 17) % 1000003 := ⟨_, rfl⟩
      have hrb : 0 ≤ r ∧ r < 1000003 := by omega
      have hp := prod_bd hrb.1 hrb.2
      rw [← hr] at t1
      have HR := Lib.hid hr
      clear hr
      rcases Int.lt_or_le (25214 * q + x + 17) 0 with hneg | hpos
      · go_wp2_with fail
        go_round
        case rel => exact ⟨k + 1, by omega, by go_num, by rw [HS.out, ← HQ.out, mixStep, ← HR.out]⟩
        case measure => simp [intOf] <;> omega
      · rw [Int.tmod_eq_emod_of_nonneg hpos, ← HR.out] at t1
        have e2 : (r + 1000003) % 1000003 = r := by omega
        clear t1 t2 t3
        have e1 := HR.out.symm
        go_wp2_with fail
        go_round
        case rel => exact ⟨k + 1, by omega, by go_num, by rw [HS.out, ← HQ.out, mixStep, ← HR.out]⟩
        case measure => simp [intOf] <;> omega
    · obtain rfl : k = n1 + 2 := by omega
      have hfb := mix_bd (xs ++ [8, 1]) (40503 + n) (by omega)
      have hfin : (xs ++ [8, 1]).take (n1 + 2) = xs ++ [8, 1] := List.take_of_length_le (by rw [hI.1]; exact Nat.le_refl _)
      rw [hfin]
      obtain ⟨q, hq⟩ : ∃ q, q = (xs ++ [8, 1]).foldl mixStep (40503 + n) := ⟨_, rfl⟩
      rw [← hq] at hfb ⊢
      have HQ := Lib.hid hq
      clear hq hfin
      go_wp2_with fail
      go_ret
      exact ⟨ret_int (by rw [mixL, hl.out, ← HQ.out]), hb2⟩

/-! ### Tests and callers -/
theorem isWord_any (n : Int) (w : World) : Calls Try.prog 85 #[.int .i64 n] w fun e w' => e = .returned (.bool (inB n (-1000000000) 1000000000)) ∧ w = w' := by
  go_enter Try.func85, Try.ntmps85
  go_wp2_with (go_at_call 71; refine (within_any _ _ _ _).mono ?_; rintro e w' ⟨rfl, rfl⟩)
  go_ret
  exact ⟨rfl, rfl⟩
theorem pred_isWord (w : World) (xs : List Int) : Pred 85 #[] w (fun x => inB x (-1000000000) 1000000000) xs :=
  ⟨fun args W => by kernel_rfl, fun x _ W _ => (isWord_any x W).mono fun _ _ ⟨h1, h2⟩ => ⟨h1, by rw [h2]; exact Below.refl _ _⟩⟩
theorem areWords_any (w : World) (ao : Option Addr) (n c : Nat) (xs : List Int) (most : Int) (ha : Ints w w.heap.size ao n xs) :
    Calls Try.prog 90 #[.slice ao n c, .int .i64 most] w (RetB (wordsB xs most) w) := by
  have hl := Lib.hid ha.1
  by_cases h : (n : Int) ≤ most
  · go_enter Try.func90, Try.ntmps90
    go_wp2_with (go_at_call 69; refine (areAll_any _ _ _ _ _ _ _ _ ha (pred_isWord _ _)).mono ?_; rintro e w' ⟨rfl, hb⟩)
    go_ret
    exact ⟨ret_bool (by have : decide ((n : Int) ≤ most) = true := by simpa using h
                        simp only [wordsB, hl.out, this, allIn, Bool.true_and]), hb⟩
  · have h' : decide ((n : Int) ≤ most) = false := by simpa using h
    go_enter Try.func90, Try.ntmps90
    go_wp2_with fail
    go_ret
    exact ⟨ret_bool (by simp only [wordsB, hl.out, h', Bool.false_and]), Below.refl _ _⟩
theorem dgList_any (w : World) (B : Nat) (ao : Option Addr) (n c : Nat) (xs : List Int) (most : Int) (ha : Ints w B ao n xs) :
    Calls Try.prog 82 #[.slice ao n c, .int .i64 most] w fun e w' => e = .returned (.bool (wordsB xs most)) ∧ w = w' := by
  have hl := Lib.hid ha.1
  by_cases h : (n : Int) ≤ most
  · go_enter Try.func82, Try.ntmps82
    go_wp2_with (go_at_call 73; refine (l1All_any _ _ _ _ _ _ _ _ ha).mono ?_; rintro e w' ⟨rfl, rfl⟩)
    go_ret
    exact ⟨ret_bool (by have : decide ((n : Int) ≤ most) = true := by simpa using h
                        simp only [wordsB, hl.out, this, Bool.true_and]), rfl⟩
  · have h' : decide ((n : Int) ≤ most) = false := by simpa using h
    go_enter Try.func82, Try.ntmps82
    go_wp2_with fail
    go_ret
    exact ⟨ret_bool (by simp only [wordsB, hl.out, h', Bool.false_and]), rfl⟩
def digestF (xs : List Int) : Int × Bool := if wordsB xs 12 = true then (mixL xs, true) else (0, false)
theorem spec_DigestOf_any (w : World) (ao : Option Addr) (n c : Nat) (xs : List Int) (ha : Ints w w.heap.size ao n xs) :
    Calls Try.prog 40 #[.slice ao n c] w (RetNB (digestF xs) w) := by
  have hl := Lib.hid ha.1
  cases hg : wordsB xs 12
  · go_enter Try.func40, Try.ntmps40
    go_wp2_with (go_at_call 82; refine (dgList_any _ _ _ _ _ _ _ ha).mono ?_; rintro e w' ⟨rfl, rfl⟩)
    go_ret2
    exact ⟨by simp [digestF, hg], Below.refl _ _⟩
  · have h2 := wordsB_iff.1 hg
    rw [hl.out] at h2
    have H2 := Lib.hid h2
    clear h2
    go_enter Try.func40, Try.ntmps40
    go_wp2_with (first | (go_at_call 82; refine (dgList_any _ _ _ _ _ _ _ ha).mono ?_; rintro e w' ⟨rfl, rfl⟩) | (go_at_call 84; refine (dgMix_any _ _ _ _ _ ha (by have := H2.out.1; omega) H2.out.2).mono ?_; rintro e w1 ⟨rfl, hb⟩))
    go_ret2
    exact ⟨by simp [digestF, hg], hb⟩
theorem impl_DigestOf_any (w : World) (ao : Option Addr) (n c : Nat) (xs : List Int) (ha : Ints w w.heap.size ao n xs) :
    Calls Try.prog 39 #[.slice ao n c] w (RetNB (digestF xs) w) := by
  have hl := Lib.hid ha.1
  cases hg : wordsB xs 12
  · go_enter Try.func39, Try.ntmps39
    go_wp2_with (go_at_call 90; refine (areWords_any _ _ _ _ _ _ ha).mono ?_; rintro e w1 ⟨rfl, hb⟩)
    go_ret2
    exact ⟨by simp [digestF, hg], hb⟩
  · have h2 := wordsB_iff.1 hg
    rw [hl.out] at h2
    have H2 := Lib.hid h2
    clear h2
    go_enter Try.func39, Try.ntmps39
    go_wp2_with (first | (go_at_call 90; refine (areWords_any _ _ _ _ _ _ ha).mono ?_; rintro e w1 ⟨rfl, hb⟩; have ha' := (ha.below hb (Nat.le_refl _)).up hb.size) | (go_at_call 86; refine (digest_any _ _ _ _ _ ha' (by have := H2.out.1; omega) H2.out.2).mono ?_; rintro e w2 ⟨rfl, hb2⟩))
    go_ret2
    exact ⟨by simp [digestF, hg], hb.trans (hb2.mono hb.size)⟩
theorem ints_lit (w : World) (xs : List Int) (h : xs.length ≤ 1000000000) : Ints (w.alloc (.cells (xs.map (Value.int .i64)).toArray 3)) (w.alloc (.cells (xs.map (Value.int .i64)).toArray 3)).heap.size (some ⟨w.heap.size, 0, none⟩) xs.length xs :=
  ⟨rfl, h, by have := cellsAt_new w (xs.map (Value.int .i64)) 3; simpa using this⟩
def labelF (k t a b : Int) : Int × Bool := digestF [k, t, a, b]
theorem dgLabel_any (k t a b : Int) (w : World) (hw : allIn (-1000000000) 1000000000 [k, t, a, b] = true) :
    Calls Try.prog 92 #[.int .i64 k, .int .i64 t, .int .i64 a, .int .i64 b] w (RetN (mixL [k, t, a, b]) w) := by
  have hb0 : Below w.heap.size w (w.alloc (.cells #[.int .i64 k, .int .i64 t, .int .i64 a, .int .i64 b] 3)) := (Below.refl _ _).alloc (Nat.le_refl _) _
  have HW := Lib.hid hw
  clear hw
  go_enter Try.func92, Try.ntmps92
  go_wp2_with (go_at_call 84; refine (dgMix_any _ _ _ _ _ (ints_lit w [k, t, a, b] (by simp)) (by simp) HW.out).mono ?_; rintro e w1 ⟨rfl, hb⟩)
  go_ret
  exact ⟨rfl, hb0.trans (hb.mono hb0.size)⟩
theorem words4 (k t a b : Int) (m : Int) (hm : 4 ≤ m) : wordsB [k, t, a, b] m = wordsB [k, t, a, b] 12 := by
  unfold wordsB
  rw [decide_eq_true (by simpa using hm), decide_eq_true (by simp)]
theorem spec_LabelFor_any (k t a b : Int) (w : World) : Calls Try.prog 43 #[.int .i64 k, .int .i64 t, .int .i64 a, .int .i64 b] w (RetNB (labelF k t a b) w) := by
  have hb0 : Below w.heap.size w (w.alloc (.cells #[.int .i64 k, .int .i64 t, .int .i64 a, .int .i64 b] 3)) := (Below.refl _ _).alloc (Nat.le_refl _) _
  cases hg : wordsB [k, t, a, b] 12
  · have hg4 := (words4 k t a b 4 (by decide)).trans hg
    go_enter Try.func43, Try.ntmps43
    go_wp2_with (go_at_call 82; refine (dgList_any _ _ _ _ _ _ _ (ints_lit w [k, t, a, b] (by simp))).mono ?_; rintro e w' ⟨rfl, rfl⟩; rw [hg4])
    go_ret2
    exact ⟨by simp [labelF, digestF, hg], hb0⟩
  · have hg4 := (words4 k t a b 4 (by decide)).trans hg
    have HW := Lib.hid (wordsB_iff.1 hg).2
    go_enter Try.func43, Try.ntmps43
    go_wp2_with (first | (go_at_call 82; refine (dgList_any _ _ _ _ _ _ _ (ints_lit w [k, t, a, b] (by simp))).mono ?_; rintro e w' ⟨rfl, rfl⟩; rw [hg4]) | (go_at_call 92; refine (dgLabel_any _ _ _ _ _ HW.out).mono ?_; rintro e w2 ⟨rfl, hb2⟩))
    go_ret2
    exact ⟨by simp [labelF, digestF, hg], hb0.trans (hb2.mono hb0.size)⟩
theorem impl_LabelFor_any (k t a b : Int) (w : World) : Calls Try.prog 42 #[.int .i64 k, .int .i64 t, .int .i64 a, .int .i64 b] w (RetNB (labelF k t a b) w) := by
  have hb0 : Below w.heap.size w (w.alloc (.cells #[.int .i64 k, .int .i64 t, .int .i64 a, .int .i64 b] 3)) := (Below.refl _ _).alloc (Nat.le_refl _) _
  go_enter Try.func42, Try.ntmps42
  go_wp2_with (go_at_call 39; refine (impl_DigestOf_any _ _ _ _ _ (ints_lit w [k, t, a, b] (by simp))).mono ?_; rintro e w2 ⟨rfl, hb2⟩)
  go_ret2
  exact ⟨rfl, hb0.trans (hb2.mono hb0.size)⟩
end Go.Proofs.Ytilkgidilhgjeaa
