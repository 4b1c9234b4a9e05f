/-
  Draws: words, and what the draw functions of the streams hand over.
-/
import Derived.Test.YtilkgidilhgjeaaDr2
namespace Go.Proofs.Ytilkgidilhgjeaa
open Go.RowKit
set_option linter.unusedVariables false
set_option linter.unusedSimpArgs false

set_option maxHeartbeats 4000000 in
set_option maxRecDepth 20000 in
theorem words_any (w : World) (b m : Nat) (hc : Cur w b m) (hm : m + 1000 ≤ 1000000000000) :
    Calls Try.prog 89 #[.pointer (some ⟨b, 0, none⟩)] w (DrewI w.heap.size 100 b (m + 900) w) := by
  have hbl := hc.lt
  obtain ⟨i0, hi, hz0, hz1, hz2⟩ := info_parts int_info
  go_enter Try.func89, Try.ntmps89
  go_wp2_with fail
  refine (pick_any _ _ _ hc (by omega) 5 (by omega) (by omega)).mono ?_
  rintro e w1 ⟨r, hr0, hr1, rfl, hc1, hg1⟩
  go_wp2_with fail
  go_loopw [3, 4] (fun x3 x4 wr => ∃ (j : Nat) (k : Int) (xs : List Int) (ao : Option Addr) (cap : Nat), 0 ≤ k ∧ (j : Int) + k = r ∧ x4 = .int .i64 k ∧ x3 = .slice ao j cap ∧ OwnI w.heap.size wr ao j cap xs ∧ Cur wr b (m + 2 + 10 * j) ∧ w.grownBy wr (some b)) (fun _ x4 _ => (intOf x4).toNat)
  case atStart => exact ⟨0, _, [], _, _, hr0, by omega, rfl, rfl, OwnI.nil _ _ _, hc1, hg1⟩
  case round =>
    obtain ⟨j, k, xs, ao, cap, hk0, hjk, rfl, rfl, ho, hcu, hg⟩ := hrel
    have HJ := Lib.hid hjk
    have hj4 : j ≤ 4 := by omega
    have hk4 : k ≤ 4 := by omega
    have hzr := hg.size
    clear hjk
    by_cases hk : 0 < k
    · go_wp2_with fail
      refine (pick_any _ _ _ hcu (by omega) 60000 (by omega) (by omega)).mono ?_
      rintro e w2 ⟨q, hq0, hq1, rfl, hc2, hg2⟩
      have ho2 := ho.other hg2 (fun p l hp hl => by have := (ho.rowLt p hp).1; simp at hl; omega)
      have hz2' := hg2.size
      go_wp2_with fail
      refine (among_new _ _ _ hc2 (by omega) [0, 1, 7, -1, 1000000000, -1000000000, q] (by simp) (by simp)).mono ?_
      rintro e w4 ⟨s, _, rfl, hc4, hg4⟩
      have hz4 := hg4.size
      have ho4 := ho2.other hg4 (fun p l hp hl => by have := (ho2.rowLt p hp).1; simp at hl; omega)
      have hrow : ∀ p, rowOf ao cap = some p → w.heap.size ≤ p := fun p hp => (ho4.rowLt p hp).1
      go_wp2_with (at_builtin; refine wpList_append_i rfl _ _ rfl w.heap.size _ _ _ _ _ rfl (by first | rfl | (simp; rfl)) ho4 (by omega) (by omega) ?_; intro ao' cap' w9 hown9 hg9)
      have hc9 := hc4.grown hg9 (fun p hp => by have := hrow p hp; omega)
      have hG := gown (gtrans (gtrans hg hg2) hg4) hg9 hrow
      go_roundw
      case rel => exact ⟨j + 1, k - 1, _, _, _, by omega, by have := HJ.out; omega, rfl, rfl, hown9, hc9.more (by omega) (by omega), hG⟩
      case measure => simp [intOf] <;> omega
    · go_wp2_with fail
      refine (pick_any _ _ _ hcu (by omega) 24 (by omega) (by omega)).mono ?_
      rintro e w3 ⟨q, hq0, hq1, rfl, hc3, hg3⟩
      have hz3 := hg3.size
      have ho3 := ho.other hg3 (fun p l hp hl => by have := (ho.rowLt p hp).1; simp at hl; omega)
      have hG3 := gtrans hg hg3
      by_cases h0 : q = 0
      · subst h0
        go_wp2_with fail
        refine (among_new _ _ _ hc3 (by omega) [1000000001, -1000000001] (by decide) (by decide)).mono ?_
        rintro e w4 ⟨s, _, rfl, hc4, hg4⟩
        have hz4 := hg4.size
        have ho4 := ho3.other hg4 (fun p l hp hl => by have := (ho3.rowLt p hp).1; simp at hl; omega)
        have hrow : ∀ p, rowOf ao cap = some p → w.heap.size ≤ p := fun p hp => (ho4.rowLt p hp).1
        go_wp2_with (at_builtin; refine wpList_append_i rfl _ _ rfl w.heap.size _ _ _ _ _ rfl (by first | rfl | (simp; rfl)) ho4 (by omega) (by omega) ?_; intro ao' cap' w9 hown9 hg9)
        go_ret
        exact ⟨_, _, _, _, rfl, hown9, by omega, (hc4.grown hg9 (fun p hp => by have := hrow p hp; omega)).more (by omega) (by omega), gown (gtrans hG3 hg4) hg9 hrow⟩
      by_cases h1 : q = 1
      · subst h1
        go_wp2_with fail
        refine (pick_any _ _ _ hc3 (by omega) 4 (by omega) (by omega)).mono ?_
        rintro e w4 ⟨s, hs0, hs1, rfl, hc4, hg4⟩
        have hz4 := hg4.size
        obtain ⟨s, rfl⟩ := Int.eq_ofNat_of_zero_le hs0
        go_wp2_with (at_make; refine wpList_make_full _ rfl _ _ 35 rfl w4.heap.size 3 i0 (.int .i64 0) 1 Try.underlying35 hi hz0 hz1 _ _ _ _ (10 + s) rfl (by first | rfl | (simp; done)) (by first | rfl | (simp; done)) rfl (by rw [hz2]; omega) (by unfold maxLen; omega) (Nat.le_refl _) ?_; intro w5 hown5 hg5)
        rw [show (Value.int IntKind.i64 0).cells = #[.int .i64 0] from rfl, toList_madeCells_one, Nat.mul_one, show List.replicate (10 + s) (Value.int .i64 0) = (List.replicate (10 + s) (0 : Int)).map (Value.int .i64) from by simp] at hown5
        have hb5 : Below w4.heap.size w4 w5 := (Below.refl _ _).grown hg5 (Nat.le_refl _) (by simp)
        have ho5 : OwnI w.heap.size w5 (some ⟨w4.heap.size, 0, none⟩) (10 + s) (10 + s) (List.replicate (10 + s) 0) := OwnI.up (B := w4.heap.size) ⟨by simp, by omega, .inr ⟨_, rfl, hown5⟩⟩ (by omega)
        go_wp2_with fail
        go_ret
        exact ⟨_, _, _, _, rfl, ho5, by omega, (hc4.below hb5 hc4.lt).more (by omega) (by omega), gbelow (gtrans hG3 hg4) hb5⟩
      · go_wp2_with fail
        go_ret
        exact ⟨_, _, _, _, rfl, ho3, by omega, hc3.more (by omega) (by omega), hG3⟩
end Go.Proofs.Ytilkgidilhgjeaa
