/-
  The networks of insertion and of merge exchange.
-/
import Derived.Test.YtilkgidilhgjeaaStep
namespace Go.Proofs.Ytilkgidilhgjeaa
open Go.RowKit

def rowF (k : Int) (m : Nat) : List Int := (List.range m).flatMap fun (j : Nat) => [k - (j : Int) - 1, k - (j : Int)]
theorem rowF_succ (k : Int) (m : Nat) : rowF k (m + 1) = rowF k m ++ [k - m - 1, k - m] := by simp [rowF, List.range_succ]
def insA (m : Nat) : List Int := (List.range m).flatMap fun (j : Nat) => rowF ((j : Int) + 1) (j + 1)
theorem insA_succ (m : Nat) : insA (m + 1) = insA m ++ rowF ((m : Int) + 1) (m + 1) := by simp [insA, List.range_succ]
def insertionF (n : Int) : List Int × Bool := if inB n 1 12 = true ∧ (insA (n.toNat - 1)).length ≤ 120 then (insA (n.toNat - 1), true) else ([], false)

theorem spec_InsertionNetwork_any (n : Int) (w : World) : Calls Try.prog 104 #[.int .i64 n] w (RetFB 2 62 (insertionF n) w) := by
  cases hin : inB n 1 12
  · go_enter Try.func104, Try.ntmps104
    go_wp2_with (go_at_call 81; refine (l1In_any _ _ _ _).mono ?_; rintro e w' ⟨rfl, rfl⟩)
    go_ret2
    exact ⟨none, 0, 0, by simp [insertionF, hin], by simpa [insertionF, hin] using OwnF.nil _ _ _, Below.refl _ _⟩
  · have hb := inB_iff.1 hin
    obtain ⟨n, rfl⟩ := Int.eq_ofNat_of_zero_le (show 0 ≤ n by omega)
    have HI := Lib.hid hin
    go_enter Try.func104, Try.ntmps104
    go_wp2_with (go_at_call 81; refine (l1In_any _ _ _ _).mono ?_; rintro e w' ⟨rfl, rfl⟩)
    go_loopw [4, 5] (fun out i wr => ∃ (k : Nat) (co : Option Addr) (m cap : Nat), 1 ≤ k ∧ k ≤ n ∧ m ≤ 12 * k ∧ i = .int .i64 k ∧ out = .slice co m cap ∧ OwnF 2 62 w.heap.size wr co m cap (insA (k - 1)) ∧ Below w.heap.size w wr) (fun _ i _ => n - (intOf i).toNat)
    case atStart => exact ⟨1, _, 0, 0, by omega, by omega, by omega, rfl, rfl, OwnF.nil _ _ _, Below.refl _ _⟩
    case round =>
      obtain ⟨k, co, m, cap, h1, h2, h3, rfl, rfl, hout, hbel⟩ := hrel
      by_cases hlt : k < n
      · go_wp2_with fail
        go_loopw [4, 6] (fun out i wr => ∃ (j : Nat) (co : Option Addr) (m cap : Nat), j ≤ k ∧ m ≤ 12 * k + j ∧ i = .int .i64 (k - j) ∧ out = .slice co m cap ∧ OwnF 2 62 w.heap.size wr co m cap (insA (k - 1) ++ rowF k j) ∧ Below w.heap.size w wr) (fun _ i _ => (intOf i).toNat)
        case atStart => exact ⟨0, _, m, cap, by omega, by omega, by simp, rfl, by simpa [rowF] using hout, hbel⟩
        case round =>
          obtain ⟨j, co, m, cap, h4, h5, rfl, rfl, hout, hbel⟩ := hrel
          by_cases hj : j < k
          · go_wp2_with (at_builtin; refine wpList_append_Step rfl _ _ rfl w.heap.size _ _ _ _ _ _ rfl rfl hout (by omega) hbel.size ?_; intro bo' cap'' w4 hown4 hg4)
            have hbel4 := below_append hbel hout.2.2 hg4 hbel.size
            rw [List.append_assoc, ← rowF_succ] at hown4
            go_roundw
            case rel => exact ⟨j + 1, bo', m + 1, cap'', by omega, by omega, by congr 1; omega, rfl, hown4, hbel4⟩
            case measure => simp [intOf] <;> omega
          · obtain rfl : j = k := by omega
            go_wp2_with fail
            have hout' : OwnF 2 62 w.heap.size wr co m cap (insA (j + 1 - 1)) := by
              rw [show j + 1 - 1 = (j - 1) + 1 from by omega, insA_succ, show ((j - 1 : Nat) : Int) + 1 = j from by omega, show j - 1 + 1 = j from by omega]; exact hout
            go_roundw
            case rel => exact ⟨j + 1, _, m, cap, by omega, by omega, by omega, by go_num, rfl, hout', hbel⟩
            case measure => simp [intOf] <;> omega
      · obtain rfl : k = n := by omega
        have hl := hout.1
        by_cases h60 : m ≤ 60
        · go_wp2_with fail
          go_ret2
          have e : insertionF k = (insA (k - 1), true) := by unfold insertionF; rw [if_pos ⟨HI.out, by simp; omega⟩]; simp
          exact ⟨_, _, _, by rw [e]; rfl, by rw [e]; exact hout, hbel⟩
        · go_wp2_with fail
          go_ret2
          have e : insertionF k = ([], false) := by unfold insertionF; rw [if_neg]; rintro ⟨_, h⟩; simp at h; omega
          exact ⟨none, 0, 0, by rw [e]; rfl, by rw [e]; exact OwnF.nil _ _ _, hbel⟩
end Go.Proofs.Ytilkgidilhgjeaa
