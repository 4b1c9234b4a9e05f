/-
  Draws: numbers, choices, bits.
-/
import Derived.Test.YtilkgidilhgjeaaCur
import Derived.Test.YtilkgidilhgjeaaBits1
import Derived.Deep.AppendLies
namespace Go.Proofs.Ytilkgidilhgjeaa
open Go.RowKit
set_option linter.unusedVariables false
set_option linter.unusedSimpArgs false

theorem emod_bd {x n : Int} (hn : 1 ≤ n) : 0 ≤ x % n ∧ x % n ≤ n - 1 := by
  have := Int.emod_nonneg x (show n ≠ 0 by omega)
  have := Int.emod_lt_of_pos x (show 0 < n by omega)
  omega
theorem pick_any (w : World) (b m : Nat) (hc : Cur w b m) (hm : m + 2 ≤ 1000000000000) (n : Int) (hn : 1 ≤ n) (hn2 : n ≤ 65536) :
    Calls Try.prog 67 #[.pointer (some ⟨b, 0, none⟩), .int .i64 n] w (Drew 0 (n - 1) b (m + 2) w) := by
  by_cases h1 : n ≤ 1
  · go_enter Try.func67, Try.ntmps67
    go_wp2_with fail
    go_ret
    exact ⟨0, by omega, by omega, rfl, hc.more (by omega) hm, World.grownBy.refl w (some b)⟩
  · by_cases h2 : 200 < n
    · go_enter Try.func67, Try.ntmps67
      go_wp2_with fail
      refine (next_any _ _ _ hc (by omega)).mono ?_
      rintro e w1 ⟨r, hr0, hr1, rfl, hc1, hg1⟩
      go_wp2_with fail
      refine (next_any _ _ _ hc1 (by omega)).mono ?_
      rintro e w2 ⟨q, hq0, hq1, rfl, hc2, hg2⟩
      have hb := emod_bd (x := r * 256 + q) (n := n) (by omega)
      have hne : n ≠ 0 := by omega
      go_wp2_with fail
      go_ret
      exact ⟨_, hb.1, hb.2, rfl, hc2, gtrans hg1 hg2⟩
    · go_enter Try.func67, Try.ntmps67
      go_wp2_with fail
      refine (next_any _ _ _ hc (by omega)).mono ?_
      rintro e w1 ⟨r, hr0, hr1, rfl, hc1, hg1⟩
      have hb := emod_bd (x := r) (n := n) (by omega)
      have hne : n ≠ 0 := by omega
      go_wp2_with fail
      go_ret
      exact ⟨_, hb.1, hb.2, rfl, hc1.more (by omega) hm, hg1⟩
def DrewB (b m : Nat) (w : World) (e : Ending) (w' : World) : Prop := ∃ v : Bool, e = .returned (.bool v) ∧ Cur w' b m ∧ w.grownBy w' (some b)
theorem one_any (w : World) (b m : Nat) (hc : Cur w b m) (hm : m + 2 ≤ 1000000000000) (n : Int) (hn : 1 ≤ n) (hn2 : n ≤ 65536) :
    Calls Try.prog 91 #[.pointer (some ⟨b, 0, none⟩), .int .i64 n] w (DrewB b (m + 2) w) := by
  go_enter Try.func91, Try.ntmps91
  go_wp2_with fail
  refine (pick_any _ _ _ hc hm n hn hn2).mono ?_
  rintro e w1 ⟨r, hr0, hr1, rfl, hc1, hg1⟩
  go_wp2_with fail
  go_ret
  exact ⟨_, rfl, hc1, hg1⟩
def DrewM (xs : List Int) (b m : Nat) (w : World) (e : Ending) (w' : World) : Prop := ∃ r : Int, r ∈ xs ∧ e = .returned (.int .i64 r) ∧ Cur w' b m ∧ w.grownBy w' (some b)
theorem among_any (w : World) (b m : Nat) (hc : Cur w b m) (hm : m + 2 ≤ 1000000000000) (B : Nat) (ao : Option Addr) (n c : Nat) (xs : List Int) (ha : Ints w B ao n xs) (hB : B ≤ w.heap.size) (hn : 1 ≤ n) (hn2 : n ≤ 1000) (hfar : ∀ g o, ao = some ⟨g, o, none⟩ → g ≠ b) :
    Calls Try.prog 68 #[.pointer (some ⟨b, 0, none⟩), .slice ao n c] w (DrewM xs b (m + 2) w) := by
  go_enter Try.func68, Try.ntmps68
  go_wp2_with fail
  refine (pick_any _ _ _ hc hm n (by omega) (by omega)).mono ?_
  rintro e w1 ⟨r, hr0, hr1, rfl, hc1, hg1⟩
  obtain ⟨k, rfl⟩ := Int.eq_ofNat_of_zero_le hr0
  have hk : k < n := by omega
  obtain ⟨b1, o1, x, rfl, hb1, hx, hc2⟩ := ha.at hk
  have hne : b1 ≠ b := hfar b1 o1 rfl
  have q := (hg1.cell_far ⟨b1, o1 + k, none⟩ (by show b1 < w.heap.size; omega) (fun e => hne (by simpa using e))).trans hc2
  have hmem := List.mem_of_getElem? hx
  clear hx
  go_wp2_with fail
  go_ret
  exact ⟨_, hmem, rfl, hc1, hg1⟩
/-- A list is drawn. -/
def DrewI (S N b m : Nat) (w : World) (e : Ending) (w' : World) : Prop := ∃ (xs : List Int) (ao : Option Addr) (n cap : Nat), e = .returned (.slice ao n cap) ∧ OwnI S w' ao n cap xs ∧ n ≤ N ∧ Cur w' b m ∧ w.grownBy w' (some b)
theorem gown {a b c : World} {q : Option Nat} {row : Option Nat} (h : a.grownBy b q) (k : b.grownBy c row) (hr : ∀ p, row = some p → a.heap.size ≤ p) : a.grownBy c q :=
  ⟨k.os.trans h.os, k.tape.trans h.tape, k.output.trans h.output, Nat.le_trans h.size k.size, fun i hi hne => (k.block i (Nat.lt_of_lt_of_le hi h.size) (fun e => by have := hr i (by rw [e]); omega)).trans (h.block i hi hne)⟩
theorem Cur.grown {w w' : World} {b m : Nat} {row : Option Nat} (h : Cur w b m) (hg : w.grownBy w' row) (hr : ∀ p, row = some p → b < p) : Cur w' b m :=
  h.below (C := b + 1) ((Below.refl (b + 1) w).grown hg (by have := h.lt; omega) (fun p hp => by have := hr p hp; omega)) (Nat.lt_succ_self _)
/-- Bits are drawn. -/
def DrewBs (S N b m : Nat) (w : World) (e : Ending) (w' : World) : Prop := ∃ (xs : List Int) (ao : Option Addr) (n cap : Nat), e = .returned (.slice ao n cap) ∧ OwnI S w' ao n cap xs ∧ n ≤ N ∧ (∀ x ∈ xs, 0 ≤ x ∧ x ≤ 1) ∧ Cur w' b m ∧ w.grownBy w' (some b)
theorem bits_app {xs : List Int} {r : Int} (h : ∀ x ∈ xs, 0 ≤ x ∧ x ≤ 1) (h0 : 0 ≤ r) (h1 : r ≤ 1) : ∀ x ∈ xs ++ [r], 0 ≤ x ∧ x ≤ 1 := by
  intro x hx
  rw [List.mem_append] at hx
  rcases hx with hx | hx
  · exact h x hx
  · simp at hx; omega
end Go.Proofs.Ytilkgidilhgjeaa
