/-
  The language: the reference's widths.
-/
import Derived.Test.YtdlddkgmjpmenaaGreatDoorLw0
import Derived.Test.YtdlddkgmjpmenaaGreatDoorLw1
import Derived.Test.YtdlddkgmjpmenaaGreatDoorLw2
import Derived.Test.YtdlddkgmjpmenaaGreatDoorLw3
import Derived.Test.YtdlddkgmjpmenaaGreatDoorLw4
import Derived.Test.YtdlddkgmjpmenaaGreatDoorLw5
import Derived.Test.YtdlddkgmjpmenaaGreatDoorLw6
namespace Go.Proofs.YtdlddkgmjpmenaaGreatDoor
open Go.RowKit
set_option linter.unusedVariables false
set_option linter.unusedSimpArgs false

theorem laWidth_any (w : World) (ao bo pa : Option Addr) (n c d pc : Nat) (ls : List Ln) (ws : List Int) (x : Ln) (h : Lns w w.heap.size ao n ls) (hw : Ints w w.heap.size bo n ws) (hp : Strs w w.heap.size pa x.parts.length x.parts) (hz : okZ ws) (hs : x.name.size ≤ 1048576) (hs2 : x.parts.length ≤ 1048576) :
    Calls Tryz.prog 83 #[.slice ao n c, .slice bo n d, .agg #[.int .i64 x.kind, .string x.name, .string x.op, .slice pa x.parts.length pc, .int .i64 x.party, .int .i64 x.width, .int .i64 x.value]] w (RetN (laWidth ls ws x) w) := by
  by_cases k1 : x.kind = 1
  · exact laWidth_any1 w ao bo pa n c d pc ls ws x h hw hp hz hs hs2 k1
  by_cases k2 : x.kind = 2
  · exact laWidth_any2 w ao bo pa n c d pc ls ws x h hw hp hz hs hs2 k2
  by_cases k3 : x.kind = 3
  · exact laWidth_any3 w ao bo pa n c d pc ls ws x h hw hp hz hs hs2 k3
  by_cases k4 : x.kind = 4
  · exact laWidth_any4 w ao bo pa n c d pc ls ws x h hw hp hz hs hs2 k4
  by_cases k5 : x.kind = 5
  · exact laWidth_any5 w ao bo pa n c d pc ls ws x h hw hp hz hs hs2 k5
  by_cases k6 : x.kind = 6
  · exact laWidth_any6 w ao bo pa n c d pc ls ws x h hw hp hz hs hs2 k6
  exact laWidth_any0 w ao bo pa n c d pc ls ws x h hw hp hz hs hs2 k1 k2 k3 k4 k5 k6
theorem partsBy_okZ {f : ByteArray → Int} {ws : List Int} (hz : okZ ws) : ∀ {ps : List ByteArray} {w : List Int}, partsBy f ws ps = some w → okZ w
  | [], w, h => by
    simp [partsBy] at h
    subst h
    intro i x hx
    simp at hx
  | p :: r, w, h => by
    unfold partsBy at h
    split at h
    · cases h
    · cases hr : partsBy f ws r with
      | none => rw [hr] at h; simp at h
      | some v =>
        rw [hr] at h
        simp at h
        subst h
        intro i x hx
        cases i with
        | zero => simp at hx; subst hx; exact okZ_at hz _
        | succ i => simp at hx; exact partsBy_okZ hz hr i x hx
theorem laWidth_okZ (ls : List Ln) {ws : List Int} (hz : okZ ws) (x : Ln) : 0 ≤ laWidth ls ws x ∧ laWidth ls ws x ≤ 10 := by
  unfold laWidth
  split
  · omega
  · next w hw =>
    have hwz := partsBy_okZ hz hw
    have h0 := okZ_at hwz 0
    have h1 := okZ_at hwz 1
    split
    · omega
    split
    · omega
    unfold kindW
    split
    · split
      · next g => simp only [Bool.and_eq_true, inB_iff] at g; omega
      · omega
    split
    · split
      · next g => simp only [Bool.and_eq_true, inB_iff] at g; omega
      · omega
    split
    · unfold laTwo
      split
      · omega
      · next g =>
        split
        · next g2 => simp [g2] at g; omega
        · split <;> omega
    split
    · exact h0
    split
    · split
      · exact h1
      · omega
    · omega
theorem laWidthsFrom_snoc (x : Ln) : ∀ (r done : List Ln) (ws : List Int), laWidthsFrom done ws (r ++ [x]) = laWidthsFrom done ws r ++ [laWidth (done ++ r) (laWidthsFrom done ws r) x]
  | [], done, ws => by simp [laWidthsFrom]
  | y :: r, done, ws => by
    rw [List.cons_append, laWidthsFrom, laWidthsFrom, laWidthsFrom_snoc x r]
    simp
theorem laWidths_step {ls : List Ln} {k : Nat} {x : Ln} (h : ls[k]? = some x) : laWidths (ls.take (k + 1)) = laWidths (ls.take k) ++ [laWidth (ls.take k) (laWidths (ls.take k)) x] := by
  unfold laWidths
  rw [List.take_add_one, h]
  exact laWidthsFrom_snoc x (ls.take k) [] []
theorem laWidths_length (ls : List Ln) : (laWidths ls).length = ls.length := by
  obtain ⟨t, ht, htl⟩ := laWidthsFrom_prefix ls [] []
  rw [show laWidths ls = laWidthsFrom [] [] ls from rfl, ht]; simpa using htl
end Go.Proofs.YtdlddkgmjpmenaaGreatDoor
