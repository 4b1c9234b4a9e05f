/-
  Texts of programs: the program's text.
-/
import Derived.Test.YtdlddkgmjpmenaaGreatDoorMPt2
import Derived.Test.YtdlddkgmjpmenaaGreatDoorShelf
import Derived.Lib.AppendIntMem
import Derived.Deep.RegionHeld3
import Derived.StillTailTactics
namespace Go.Proofs.YtdlddkgmjpmenaaGreatDoor
open Go.RowKit Go.Sort
set_option linter.unusedVariables false
set_option linter.unusedSimpArgs false

abbrev TabB (w : World) : Prop := Lib.TabBelow Tryz.prog w.heap.size w "internal/strconv.uint64pow10" .u64 Lib.pow10Tab
theorem itoa_any (n : Int) (h0 : 0 ≤ n) (h1 : n ≤ 9999) (W : World) (ht : Lib.TabIs Tryz.prog W "internal/strconv.uint64pow10" .u64 Lib.pow10Tab) : Calls Tryz.prog 84 #[.int .i64 n] W (RetT (numT n) W) := by
  refine (Tryz.strconv_Itoa n (by omega) (by omega) W ht).mono ?_
  rintro e w' ⟨rfl, k, os, rfl⟩
  refine ⟨ret_str ?_, Lib.below_grow _ _ (Nat.le_refl _) k os⟩
  unfold Lib.itoa numT bt
  rw [if_neg (by omega)]
def joinB (xs : List ByteArray) : ByteArray := ⟨(Lib.join (xs.map (·.data.toList)) [32]).toArray⟩
theorem join2 (a b : ByteArray) : joinB [a, b] = a ++ ByteArray.mk #[32] ++ b := by
  apply ByteArray.ext
  simp [joinB, Lib.join_cons, Lib.joinTail]
theorem join3 (a b c : ByteArray) : joinB [a, b, c] = a ++ ByteArray.mk #[32] ++ b ++ ByteArray.mk #[32] ++ c := by
  apply ByteArray.ext
  simp [joinB, Lib.join_cons, Lib.joinTail]
theorem join4 (a b c d : ByteArray) : joinB [a, b, c, d] = a ++ ByteArray.mk #[32] ++ b ++ ByteArray.mk #[32] ++ c ++ ByteArray.mk #[32] ++ d := by
  apply ByteArray.ext
  simp [joinB, Lib.join_cons, Lib.joinTail]
theorem join5 (a b c d e : ByteArray) : joinB [a, b, c, d, e] = a ++ ByteArray.mk #[32] ++ b ++ ByteArray.mk #[32] ++ c ++ ByteArray.mk #[32] ++ d ++ ByteArray.mk #[32] ++ e := by
  apply ByteArray.ext
  simp [joinB, Lib.join_cons, Lib.joinTail]
theorem join_any (g c : Nat) (xs : List ByteArray) (E : ByteArray) (hE : joinB xs = E) (hs : E.size ≤ 100000000) (hl : xs.length ≤ 100) (W : World) (hcells : ∀ (j : Nat) (x : ByteArray), xs[j]? = some x → W.cell? ⟨g, 0 + j, none⟩ = some (.string x)) (hg : g < W.heap.size) (hc : xs.length ≤ c) :
    Calls Tryz.prog 85 #[.slice (some ⟨g, 0, none⟩) xs.length c, .string ⟨#[32]⟩] W (RetT E W) := by
  subst hE
  have h : (joinB xs).size = (Lib.join (xs.map (·.data.toList)) [32]).length := by simp [joinB, ByteArray.size]
  refine (Tryz.strings_Join g 0 c xs ⟨#[32]⟩ W hcells hg (by omega) hc (by show (Lib.join (xs.map (·.data.toList)) [32]).length ≤ _; omega)).mono ?_
  rintro e w' ⟨rfl, hb⟩
  exact ⟨rfl, hb⟩
theorem row_cells {W : World} {g : Nat} {xs : List ByteArray} (h : W.heap[g]? = some (.cells (xs.map Value.string).toArray 9 (0, 0))) : ∀ (j : Nat) (x : ByteArray), xs[j]? = some x → W.cell? ⟨g, 0 + j, none⟩ = some (.string x) := by
  intro j x hx
  rw [Nat.zero_add, cell_of_row W g j _ _ (0, 0) h]
  simp [hx]
theorem lineE_size {x : Ln} (z1 : x.name.size ≤ 1048576) (z2 : x.op.size ≤ 1048576) (hp : ∀ p ∈ x.parts, p.size ≤ 1048576) (h1 : (x.parts.length : Int) = laParts x.kind) (q2 : x.kind = 1 → (0 ≤ x.party ∧ x.party ≤ 1) ∧ (1 ≤ x.width ∧ x.width ≤ 10)) (q3 : x.kind = 2 → (1 ≤ x.width ∧ x.width ≤ 10) ∧ (0 ≤ x.value ∧ x.value ≤ 1023)) : (lineE x).size ≤ 10000000 := by
  have hg : ∀ j, (x.parts.getD j ByteArray.empty).size ≤ 1048576 := fun j => by
    rw [List.getD_eq_getElem?_getD]
    cases hj : x.parts[j]? with
    | none => simp
    | some p => exact hp p (List.mem_of_getElem? hj)
  have a := hg 0
  have b := hg 1
  have c := hg 2
  have n1 := numT_size x.party
  have n2 := numT_size x.width
  have n3 := numT_size x.value
  unfold lineE
  split
  · next e => have := q2 e; simp only [ByteArray.size_append]; show 6 + _ + 1 + _ + 1 + _ ≤ _; omega
  split
  · next e => have := q3 e; simp only [ByteArray.size_append]; show 6 + _ + 1 + _ + 1 + _ ≤ _; omega
  split
  · simp only [ByteArray.size_append]; show 4 + _ + 1 + _ + 1 + _ + 1 + _ ≤ _; omega
  split
  · simp only [ByteArray.size_append]; show 4 + _ + 1 + _ ≤ _; omega
  split
  · simp only [ByteArray.size_append]; show 5 + _ + 1 + _ + 1 + _ + 1 + _ ≤ _; omega
  · simp only [ByteArray.size_append]; show 4 + _ ≤ _; omega
end Go.Proofs.YtdlddkgmjpmenaaGreatDoor
