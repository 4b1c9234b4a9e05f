/-
  The laws on TextDigest, IsPrime, AddMod and MulMod: their walks.
-/
import Derived.Test.YthnmdcfpddpdfaaField
namespace Go.Proofs.Ythnmdcfpddpdfaa
open Go.RowKit

theorem walk_FnExactConstants (w : World) : Calls Try.prog 3 #[] w (RetB true w) := by
  go_enter Try.func3, Try.ntmps3
  go_wp2
  go_ret
  exact ⟨rfl, Below.refl _ _⟩
theorem walk_FnExactTextDigest (s : ByteArray) (w : World) (hs0 : s.size ≤ maxLen) : Calls Try.prog 4 #[.string s] w (RetB true w) := by
  unfold maxLen at hs0
  by_cases hs : s.size ≤ 1048576
  · go_enter Try.func4, Try.ntmps4
    go_wp2_with (first | (go_at_call 15; refine (spec_TextDigest_any _ _ hs).mono ?_; rintro e w' ⟨rfl, rfl⟩) | (go_at_call 16; refine (impl_TextDigest_any _ _ hs).mono ?_; rintro e w' ⟨rfl, rfl⟩))
    go_ret
    exact ⟨rfl, Below.refl _ _⟩
  · have hs' : ¬ (s.size : Int) ≤ 1048576 := by omega
    go_enter Try.func4, Try.ntmps4
    go_wp2_with fail
    go_ret
    exact ⟨rfl, Below.refl _ _⟩
theorem walk_FnExactIsPrime (p : Int) (w : World) : Calls Try.prog 5 #[.int .i64 p] w (RetB true w) := by
  go_enter Try.func5, Try.ntmps5
  go_wp2_with (first | (go_at_call 17; refine (spec_IsPrime_any _ _).mono ?_; rintro e w' ⟨rfl, rfl⟩) | (go_at_call 18; refine (impl_IsPrime_any _ _).mono ?_; rintro e w' ⟨rfl, rfl⟩))
  go_ret
  exact ⟨rfl, Below.refl _ _⟩
theorem walk_FnExactAddMod (p a b : Int) (w : World) : Calls Try.prog 7 #[.int .i64 p, .int .i64 a, .int .i64 b] w (RetB true w) := by
  go_enter Try.func7, Try.ntmps7
  go_wp2_with (first | (go_at_call 23; refine (spec_AddMod_any _ _ _ _).mono ?_; rintro e w1 ⟨rfl, hb1⟩) | (go_at_call 24; refine (impl_AddMod_any _ _ _ _).mono ?_; rintro e w2 ⟨rfl, hb2⟩))
  go_ret
  exact ⟨rfl, hb1.trans (hb2.mono hb1.size)⟩
theorem walk_FnExactMulMod (p a b : Int) (w : World) : Calls Try.prog 8 #[.int .i64 p, .int .i64 a, .int .i64 b] w (RetB true w) := by
  go_enter Try.func8, Try.ntmps8
  go_wp2_with (first | (go_at_call 25; refine (spec_MulMod_any _ _ _ _).mono ?_; rintro e w1 ⟨rfl, hb1⟩) | (go_at_call 26; refine (impl_MulMod_any _ _ _ _).mono ?_; rintro e w2 ⟨rfl, hb2⟩))
  go_ret
  exact ⟨rfl, hb1.trans (hb2.mono hb1.size)⟩
end Go.Proofs.Ythnmdcfpddpdfaa
