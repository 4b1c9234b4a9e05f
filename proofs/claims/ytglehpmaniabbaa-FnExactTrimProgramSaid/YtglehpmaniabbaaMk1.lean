/-
  The language: marks in the laws: texts of numbers, slices of texts, programs.
-/
import Derived.Test.YtglehpmaniabbaaLs5
import Derived.Laws.BytesArg
namespace Go.Proofs.Ytglehpmaniabbaa
open Go.RowKit
set_option linter.unusedVariables false
set_option linter.unusedSimpArgs false

theorem str_conv (w : World) (b off len cap : Nat) (xs : List Int) (hlen : xs.length = len) (hcell : ∀ i, i < len → w.cell? ⟨b, off + i, none⟩ = some (.int .u8 (xs.getD i 0))) :
    (convert 38 9 (.slice (some ⟨b, off, none⟩) len cap)).run Try.prog w = .ok (.string (strOfNums xs)) w :=
  run_convert_bytes_arg w 38 5 Try.underlying38 Try.underlying5 b off len cap xs hlen hcell 9 Try.underlying9
theorem str_conv1 (w : World) (x : Int) : (convert 38 9 (.slice (some ⟨w.heap.size, 0, none⟩) 1 1)).run Try.prog (w.alloc (.cells #[.int .u8 x] 5)) = .ok (.string (strOfNums [x])) (w.alloc (.cells #[.int .u8 x] 5)) := by
  refine str_conv _ _ _ _ _ [x] rfl fun i hi => ?_
  obtain rfl : i = 0 := by omega
  rw [cell_of_row _ w.heap.size 0 #[.int .u8 x] 5 (0, 0) (heap_alloc_new w _)]; rfl
theorem ret_str {a b : ByteArray} (h : a = b) : Ending.returned (.string a) = .returned (.string b) := by rw [h]
/-- The digits of a number ahead of a text. -/
def digitsOf : Nat → Nat → ByteArray → ByteArray
  | 0, _, out => out
  | f + 1, k, out => if k = 0 then out else digitsOf f (k / 10) (strOfNums [48 + (k : Int) % 10] ++ out)
theorem digitsOf_zero (f : Nat) (out : ByteArray) : digitsOf f 0 out = out := by cases f <;> simp [digitsOf]
def markT (k : Nat) : ByteArray := if k = 0 then ⟨#[109, 48]⟩ else ⟨#[109]⟩ ++ digitsOf k k ⟨#[]⟩
set_option maxRecDepth 20000 in
set_option maxHeartbeats 2000000 in
theorem markText_any (w : World) (k : Nat) (hk : k ≤ 1000000000000) : Calls Try.prog 43 #[.int .i64 k] w fun e w' => e = .returned (.string (markT k)) ∧ Below w.heap.size w w' := by
  by_cases h0 : k = 0
  · subst h0
    have HF : Hid (markT 0 = ⟨#[109, 48]⟩) := rfl
    go_enter Try.func43, Try.ntmps43
    go_wp2_with fail
    go_ret
    exact ⟨ret_str HF.out.symm, Below.refl _ _⟩
  have hp : ¬ (k : Int) ≤ 0 := by omega
  have HF : Hid (markT k = ⟨#[109]⟩ ++ digitsOf k k ⟨#[]⟩) := by show _ = _; unfold markT; rw [if_neg h0]
  go_enter Try.func43, Try.ntmps43
  go_wp2_with fail
  go_loopw [0, 3] (fun q out wr => ∃ (f j : Nat) (s : ByteArray), q = .int .i64 j ∧ out = .string s ∧ j ≤ f ∧ j ≤ k ∧ s.size + j ≤ k ∧ Hid (digitsOf f j s = digitsOf k k ⟨#[]⟩) ∧ Below w.heap.size w wr) (fun q _ _ => (intOf q).toNat)
  case atStart => exact ⟨k, k, _, rfl, rfl, Nat.le_refl _, Nat.le_refl _, Nat.le_of_eq (Nat.zero_add k), rfl, Below.refl _ _⟩
  case round =>
    obtain ⟨f, j, s, rfl, rfl, hjf, hjk, hss, hd, hbel⟩ := hrel
    by_cases hj : j = 0
    · have HD := hd.out
      have hjn : ¬ (j : Int) > 0 := by omega
      rw [hj, digitsOf_zero] at HD
      have HF2 : Hid (markT k = ⟨#[109]⟩ ++ s) := by show _ = _; rw [HF.out, HD]
      have hs9 : s.size ≤ 1000000000000 := by omega
      clear HD hd hj
      go_wp2_with fail
      go_ret
      exact ⟨ret_str HF2.out.symm, hbel⟩
    · obtain ⟨f, rfl⟩ : ∃ f', f = f' + 1 := ⟨f - 1, by omega⟩
      have hjp : (j : Int) > 0 := by omega
      have HD := hd.out
      rw [digitsOf, if_neg hj] at HD
      have HD2 := Lib.hid HD
      have hcv := str_conv1 wr (48 + (j : Int) % 10)
      have hbw : Below w.heap.size w (wr.alloc (.cells #[.int .u8 (48 + (j : Int) % 10)] 5)) := hbel.alloc hbel.size _
      have hz1 : (strOfNums [48 + (j : Int) % 10]).size = 1 := rfl
      obtain ⟨s1, hs1⟩ : ∃ s1, s1 = strOfNums [48 + (j : Int) % 10] := ⟨_, rfl⟩
      rw [← hs1] at hcv HD2 hz1
      have hm : Int.tmod (j : Int) 10 = ((j % 10 : Nat) : Int) := by rfl
      have hq : Int.tdiv (j : Int) 10 = ((j / 10 : Nat) : Int) := by rfl
      have hj10 : j % 10 < 10 := Nat.mod_lt _ (by decide)
      have hjd : j / 10 < j := Nat.div_lt_self (by omega) (by decide)
      clear HD hd hs1
      go_wp2_with fail
      go_roundw
      case rel => exact ⟨f, j / 10, s1 ++ s, by rw [Int.natCast_ediv]; rfl, rfl, by omega, by omega, by rw [ByteArray.size_append, hz1]; omega, HD2.out, hbw⟩
      case measure => simp [intOf] <;> omega
def dummy := 0
end Go.Proofs.Ytglehpmaniabbaa
