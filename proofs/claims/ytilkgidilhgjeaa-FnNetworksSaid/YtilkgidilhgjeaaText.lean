/-
  Texts of bits: written and read.
-/
import Derived.Test.YtilkgidilhgjeaaBits1
import Derived.Laws.BytesArg
namespace Go.Proofs.Ytilkgidilhgjeaa
open Go.RowKit

theorem strOfNums_append (a b : List Int) : strOfNums a ++ strOfNums b = strOfNums (a ++ b) := by
  apply ByteArray.ext
  simp [strOfNums]
/-- The numbers of the letters of bits, the last bit first. -/
def digs (xs : List Int) : List Int := xs.reverse.map fun b => 48 + b
theorem digs_drop {xs : List Int} {j : Nat} {x : Int} (hx : xs[j]? = some x) : digs (xs.drop j) = digs (xs.drop (j + 1)) ++ [48 + x] := by
  have hj : j < xs.length := (List.getElem?_eq_some_iff.1 hx).1
  rw [List.drop_eq_getElem_cons hj]
  have : xs[j] = x := by rw [List.getElem?_eq_getElem hj] at hx; simpa using hx
  rw [this]; simp [digs]
theorem digs_length (xs : List Int) : (digs xs).length = xs.length := by simp [digs]

/-- The bytes cell by cell. -/
theorem byte_info : (Try.prog.info? 5).map (fun i => (i.zero, i.size, i.bytes)) = some (some (.int .u8 0), 1, 1) := by kernel_rfl
theorem str_conv (w : World) (b off len cap : Nat) (xs : List Int) (hlen : xs.length = len) (hcell : ∀ i, i < len → w.cell? ⟨b, off + i, none⟩ = some (.int .u8 (xs.getD i 0))) :
    (convert 47 9 (.slice (some ⟨b, off, none⟩) len cap)).run Try.prog w = .ok (.string (strOfNums xs)) w :=
  run_convert_bytes_arg w 47 5 Try.underlying47 Try.underlying5 b off len cap xs hlen hcell 9 Try.underlying9
theorem str_conv1 (w : World) (x : Int) : (convert 47 9 (.slice (some ⟨w.heap.size, 0, none⟩) 1 1)).run Try.prog (w.alloc (.cells #[.int .u8 x] 5)) = .ok (.string (strOfNums [x])) (w.alloc (.cells #[.int .u8 x] 5)) := by
  refine str_conv _ _ _ _ _ [x] rfl fun i hi => ?_
  obtain rfl : i = 0 := by omega
  rw [cell_of_row _ w.heap.size 0 #[.int .u8 x] 5 (0, 0) (heap_alloc_new w _)]; rfl
/-- What is owned as bytes reads as a text. -/
theorem str_own {B : Nat} {w : World} {ao : Option Addr} {n cap : Nat} {xs : List Int} (hl : xs.length = n) (h : OwnC 5 1 B w ao n cap (xs.map (Value.int .u8))) :
    (convert 47 9 (.slice ao n cap)).run Try.prog w = .ok (.string (strOfNums xs)) w := by
  rcases h.cellsAt with h0 | ⟨b, off, rfl, _, hc⟩
  · have hx : xs = [] := by simpa using h0
    subst hx
    subst hl
    cases ao with
    | none =>
      rw [run_convert_bytes_nil w 47 5 Try.underlying47 Try.underlying5 _ _ 9 Try.underlying9]
      rfl
    | some a =>
      have hl0 : (loadCells a 0).run Try.prog w = .ok #[] w := by simp [loadCells, loadCellsFrom]
      rw [run_convert_bytes_string w 47 9 5 _ _ _ Try.underlying47 Try.underlying5 Try.underlying9]
      have := run_bytesToString (P := Try.prog) w a 0 cap [] (by simpa using hl0)
      rw [show strOfNums [] = ByteArray.empty from rfl]
      simpa using this
  · refine str_conv _ _ _ _ _ xs hl fun i hi => ?_
    refine hc i _ ?_
    simp [List.getD, List.getElem?_eq_getElem (show i < xs.length by omega)]

/-- A text and a bool back. -/
def RetSB (r : ByteArray × Bool) (w : World) (e : Ending) (w' : World) : Prop := e = .returned (.tuple #[.string r.1, .bool r.2]) ∧ Below w.heap.size w w'
def bitsTextF (xs : List Int) : ByteArray × Bool := if goodB xs 64 = true then (strOfNums (digs xs), true) else (ByteArray.empty, false)
/-! ### Reading -/
def codes (l : List UInt8) : List Int := l.reverse.map fun c => (c.toNat : Int) - 48
/-- With -1 for letters that are none. -/
def codes1 (l : List UInt8) : List Int := l.reverse.map fun c => if inB ((c.toNat : Int) - 48) 0 1 = true then (c.toNat : Int) - 48 else -1
theorem codes_good (l : List UInt8) : allIn 0 1 (codes1 l) = allIn 0 1 (codes l) := by
  simp only [allIn, codes, codes1, List.all_map]
  congr 1
  funext c
  simp only [Function.comp_apply]
  cases h : inB ((c.toNat : Int) - 48) 0 1 <;> simp [h]; decide
theorem codes_eq {l : List UInt8} (h : allIn 0 1 (codes l) = true) : codes1 l = codes l := by
  simp only [codes, codes1]
  apply List.map_congr_left
  intro c hc
  have := allIn_iff.1 h ((c.toNat : Int) - 48) (by simp only [codes, List.mem_map]; exact ⟨c, hc, rfl⟩)
  rw [if_pos (inB_iff.2 this)]
theorem codes_drop {l : List UInt8} {j : Nat} {c : UInt8} (hx : l[j]? = some c) : codes (l.drop j) = codes (l.drop (j + 1)) ++ [(c.toNat : Int) - 48] := by
  have hj : j < l.length := (List.getElem?_eq_some_iff.1 hx).1
  rw [List.drop_eq_getElem_cons hj]
  have : l[j] = c := by rw [List.getElem?_eq_getElem hj] at hx; simpa using hx
  rw [this]; simp [codes]
theorem codes1_drop {l : List UInt8} {j : Nat} {c : UInt8} (hx : l[j]? = some c) : codes1 (l.drop j) = codes1 (l.drop (j + 1)) ++ [if inB ((c.toNat : Int) - 48) 0 1 = true then (c.toNat : Int) - 48 else -1] := by
  have hj : j < l.length := (List.getElem?_eq_some_iff.1 hx).1
  rw [List.drop_eq_getElem_cons hj]
  have : l[j] = c := by rw [List.getElem?_eq_getElem hj] at hx; simpa using hx
  rw [this]; simp [codes1]
theorem codes_length (l : List UInt8) : (codes l).length = l.length := by simp [codes]
theorem codes1_length (l : List UInt8) : (codes1 l).length = l.length := by simp [codes1]
def parseBitsF (s : ByteArray) : List Int × Bool := if goodB (codes s.data.toList) 64 = true then (codes s.data.toList, true) else ([], false)
theorem byte_at (s : ByteArray) (k : Nat) (h : k < s.size) : s.data.toList[k]? = some s[k] := by
  rw [List.getElem?_eq_getElem (by simpa using h)]; rfl
theorem goodB_codes (l : List UInt8) (m : Int) : goodB (codes1 l) m = goodB (codes l) m := by simp [goodB, codes_good, codes_length, codes1_length]
end Go.Proofs.Ytilkgidilhgjeaa
