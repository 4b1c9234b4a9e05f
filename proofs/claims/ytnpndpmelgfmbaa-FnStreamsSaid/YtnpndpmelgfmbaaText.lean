/-
  Texts of bits: written and read.
-/
import Derived.Test.YtnpndpmelgfmbaaBits1
import Derived.Laws.BytesArg
namespace Go.Proofs.Ytnpndpmelgfmbaa
open Go.RowKit

theorem strOfNums_append (a b : List Int) : strOfNums a ++ strOfNums b = strOfNums (a ++ b) := by
  apply ByteArray.ext
  simp [strOfNums]
/-- The numbers of the letters of bits, the last bit first. -/
def digs (xs : List Int) : List Int := xs.reverse.map fun b => 48 + b
theorem digs_drop {xs : List Int} {j : Nat} {x : Int} (hx : xs[j]? = some x) : digs (xs.drop j) = digs (xs.drop (j + 1)) ++ [48 + x] := by
  have hj : j < xs.length := (List.getElem?_eq_some_iff.1 hx).1
  rw [List.drop_eq_getElem_cons hj]
  have : xs[j] = x := by rw [List.getElem?_eq_getElem hj] at hx; simpa using hx
  rw [this]; simp [digs]
theorem digs_length (xs : List Int) : (digs xs).length = xs.length := by simp [digs]

/-- The bytes cell by cell. -/
theorem byte_info : (Try.prog.info? 5).map (fun i => (i.zero, i.size, i.bytes)) = some (some (.int .u8 0), 1, 1) := by kernel_rfl
theorem str_conv (w : World) (b off len cap : Nat) (xs : List Int) (hlen : xs.length = len) (hcell : ∀ i, i < len → w.cell? ⟨b, off + i, none⟩ = some (.int .u8 (xs.getD i 0))) :
    (convert 34 9 (.slice (some ⟨b, off, none⟩) len cap)).run Try.prog w = .ok (.string (strOfNums xs)) w :=
  run_convert_bytes_arg w 34 5 Try.underlying34 Try.underlying5 b off len cap xs hlen hcell 9 Try.underlying9
theorem str_conv1 (w : World) (x : Int) : (convert 34 9 (.slice (some ⟨w.heap.size, 0, none⟩) 1 1)).run Try.prog (w.alloc (.cells #[.int .u8 x] 5)) = .ok (.string (strOfNums [x])) (w.alloc (.cells #[.int .u8 x] 5)) := by
  refine str_conv _ _ _ _ _ [x] rfl fun i hi => ?_
  obtain rfl : i = 0 := by omega
  rw [cell_of_row _ w.heap.size 0 #[.int .u8 x] 5 (0, 0) (heap_alloc_new w _)]; rfl
/-- What is owned as bytes reads as a text. -/
theorem str_own {B : Nat} {w : World} {ao : Option Addr} {n cap : Nat} {xs : List Int} (hl : xs.length = n) (h : OwnC 5 1 B w ao n cap (xs.map (Value.int .u8))) :
    (convert 34 9 (.slice ao n cap)).run Try.prog w = .ok (.string (strOfNums xs)) w := by
  rcases h.cellsAt with h0 | ⟨b, off, rfl, _, hc⟩
  · have hx : xs = [] := by simpa using h0
    subst hx
    subst hl
    cases ao with
    | none =>
      rw [run_convert_bytes_nil w 34 5 Try.underlying34 Try.underlying5 _ _ 9 Try.underlying9]
      rfl
    | some a =>
      have hl0 : (loadCells a 0).run Try.prog w = .ok #[] w := by simp [loadCells, loadCellsFrom]
      rw [run_convert_bytes_string w 34 9 5 _ _ _ Try.underlying34 Try.underlying5 Try.underlying9]
      have := run_bytesToString (P := Try.prog) w a 0 cap [] (by simpa using hl0)
      rw [show strOfNums [] = ByteArray.empty from rfl]
      simpa using this
  · refine str_conv _ _ _ _ _ xs hl fun i hi => ?_
    refine hc i _ ?_
    simp [List.getD, List.getElem?_eq_getElem (show i < xs.length by omega)]

set_option maxRecDepth 20000 in
theorem l1Num_digit (n : Nat) (hn : n < 10) (w : World) : Calls Try.prog 172 #[.int .i64 n] w fun e w' => e = .returned (.string (strOfNums [48 + (n : Int)])) ∧ Below w.heap.size w w' := by
  have hcv := str_conv1 w (48 + (n : Int))
  have hb0 : Below w.heap.size w (w.alloc (.cells #[.int .u8 (48 + (n : Int))] 5)) := (Below.refl _ _).alloc (Nat.le_refl _) _
  obtain ⟨s1, hs1⟩ : ∃ s, s = strOfNums [48 + (n : Int)] := ⟨_, rfl⟩
  rw [← hs1] at hcv ⊢
  clear hs1
  go_enter Try.func172, Try.ntmps172
  go_wp2_with fail
  go_ret
  exact ⟨rfl, hb0⟩
theorem btText_any (w : World) (ao : Option Addr) (n c : Nat) (xs : List Int) (ha : Ints w w.heap.size ao n xs) (hn : n ≤ 100) (hb : allIn 0 1 xs = true) :
    Calls Try.prog 126 #[.slice ao n c] w fun e w' => e = .returned (.string (strOfNums (digs xs))) ∧ Below w.heap.size w w' := by
  have hl := Lib.hid ha.1
  have HB := Lib.hid hb
  clear hb
  go_enter Try.func126, Try.ntmps126
  go_wp2_with fail
  go_loopw [3, 4] (fun s i wr => ∃ iv : Int, -1 ≤ iv ∧ iv < n ∧ i = .int .i64 iv ∧ s = .string (strOfNums (digs (xs.drop (iv + 1).toNat))) ∧ Below w.heap.size w wr) (fun _ i _ => (intOf i + 1).toNat)
  case atStart => exact ⟨_, by omega, by omega, rfl, by rw [show ((n : Int) - 1 + 1).toNat = n from by omega, List.drop_of_length_le (by rw [hl.out]; exact Nat.le_refl _)]; rfl, Below.refl _ _⟩
  case round =>
    obtain ⟨iv, h1, h2, rfl, rfl, hbel⟩ := hrel
    by_cases hlt : 0 ≤ iv
    · obtain ⟨j, rfl⟩ := Int.eq_ofNat_of_zero_le hlt
      obtain ⟨b1, o1, x, rfl, hb1, hx, hc1⟩ := ha.at (show j < n by omega)
      have g1 : wr.cell? ⟨b1, o1 + j, none⟩ = some (.int .i64 x) := (hbel.cell (by exact hb1)).trans hc1
      have HD := Lib.hid (digs_drop hx)
      have hxb := allIn_iff.1 HB.out x (List.mem_of_getElem? hx)
      obtain ⟨y, rfl⟩ := Int.eq_ofNat_of_zero_le hxb.1
      rw [show ((j : Int) + 1).toNat = j + 1 from by omega]
      have hsz : (strOfNums (digs (xs.drop (j + 1)))).size ≤ 100 := by have := hl.out; rw [strOfNums_size, digs_length]; simp; omega
      have hsz1 : (strOfNums [48 + (y : Int)]).size = 1 := rfl
      obtain ⟨q, hq⟩ : ∃ q, q = strOfNums (digs (xs.drop (j + 1))) := ⟨_, rfl⟩
      obtain ⟨q1, hq1⟩ : ∃ q, q = strOfNums [48 + (y : Int)] := ⟨_, rfl⟩
      rw [← hq] at hsz ⊢
      rw [← hq1] at hsz1
      have HQ := Lib.hid hq
      have HQ1 := Lib.hid hq1
      have hsz2 : q1.size ≤ 1 := by omega
      clear hx hq hq1 hsz1
      go_wp2_with fail
      refine (l1Num_digit _ (by omega) _).mono ?_
      rintro e w1 ⟨rfl, hb1⟩
      rw [← HQ1.out]
      go_wp2_with fail
      go_roundw
      case rel => exact ⟨(j : Int) - 1, by omega, by omega, rfl, by rw [show ((j : Int) - 1 + 1).toNat = j from by omega, HD.out, ← strOfNums_append, ← HQ.out, ← HQ1.out], hbel.trans (hb1.mono hbel.size)⟩
      case measure => simp [intOf] <;> omega
    · obtain rfl : iv = -1 := by omega
      go_wp2_with fail
      go_ret
      exact ⟨rfl, hbel⟩
/-- A text and a bool back. -/
def RetSB (r : ByteArray × Bool) (w : World) (e : Ending) (w' : World) : Prop := e = .returned (.tuple #[.string r.1, .bool r.2]) ∧ Below w.heap.size w w'
def bitsTextF (xs : List Int) : ByteArray × Bool := if goodB xs 64 = true then (strOfNums (digs xs), true) else (ByteArray.empty, false)
theorem impl_BitsText_any (w : World) (ao : Option Addr) (n c : Nat) (xs : List Int) (ha : Ints w w.heap.size ao n xs) :
    Calls Try.prog 47 #[.slice ao n c] w (RetSB (bitsTextF xs) w) := by
  have hl := Lib.hid ha.1
  cases hg : goodB xs 64
  · go_enter Try.func47, Try.ntmps47
    go_wp2_with (go_at_call 24; refine (impl_AreBits_any _ _ _ _ _ ha).mono ?_; rintro e w1 ⟨rfl, hb1⟩)
    go_ret2
    exact ⟨by simp [bitsTextF, hg]; rfl, hb1⟩
  · have h2 := goodB_iff.1 hg
    rw [hl.out] at h2
    have hn64 : n ≤ 64 := by omega
    have H2 := Lib.hid h2
    clear h2
    go_enter Try.func47, Try.ntmps47
    go_wp2_with (go_at_call 24; refine (impl_AreBits_any _ _ _ _ _ ha).mono ?_; rintro e w1 ⟨rfl, hb1⟩)
    go_loopw [4, 5] (fun out i wr => ∃ (iv : Int) (co : Option Addr) (k cap : Nat), -1 ≤ iv ∧ iv < n ∧ (k : Int) + iv + 1 = n ∧ i = .int .i64 iv ∧ out = .slice co k cap ∧ OwnC 5 1 w.heap.size wr co k cap ((digs (xs.drop (iv + 1).toNat)).map (Value.int .u8)) ∧ Below w.heap.size w wr) (fun _ i _ => (intOf i + 1).toNat)
    case atStart => exact ⟨_, _, 0, 0, by omega, by omega, by omega, rfl, rfl, by rw [show ((n : Int) - 1 + 1).toNat = n from by omega, List.drop_of_length_le (by rw [hl.out]; exact Nat.le_refl _)]; exact OwnC.nil _ _ _ _ _, hb1.alloc hb1.size _⟩
    case round =>
      obtain ⟨iv, co, k, cap, h1, h2, h3, rfl, rfl, hout, hbel⟩ := hrel
      by_cases hlt : 0 ≤ iv
      · obtain ⟨j, rfl⟩ := Int.eq_ofNat_of_zero_le hlt
        obtain ⟨b1, o1, x, rfl, hbl1, hx, hc1⟩ := ha.at (show j < n by omega)
        have g1 : wr.cell? ⟨b1, o1 + j, none⟩ = some (.int .i64 x) := (hbel.cell (by exact hbl1)).trans hc1
        have HD := Lib.hid (digs_drop hx)
        have hxb := allIn_iff.1 H2.out.2 x (List.mem_of_getElem? hx)
        have hk3 : k ≤ 64 := by omega
        have H3 := Lib.hid h3
        rw [show ((j : Int) + 1).toNat = j + 1 from by omega] at hout
        clear hx h3
        go_wp2_with (at_builtin; refine wpList_append_new rfl _ _ 34 5 (.int .u8 0) 1 1 Try.underlying34 byte_info rfl (by decide) (by decide) rfl w.heap.size _ _ _ _ 1 1 [.int .u8 (48 + x)] rfl rfl rfl (by simp [Value.oneCell']) hout (by omega) hbel.size ?_; intro bo' cap'' w4 hown4 hg4)
        have hbel4 := below_append hbel hout hg4 hbel.size
        go_roundw
        case rel => exact ⟨(j : Int) - 1, bo', k + 1, cap'', by omega, by omega, by have := H3.out; omega, rfl, rfl, by rw [show ((j : Int) - 1 + 1).toNat = j from by omega, HD.out]; simpa using hown4, hbel4⟩
        case measure => simp [intOf] <;> omega
      · obtain rfl : iv = -1 := by omega
        have hk : k = n := by omega
        have hcv := str_own (xs := digs xs) (by rw [digs_length, hl.out, hk]) hout
        clear h3 hk
        go_wp2_with fail
        go_ret2
        exact ⟨by simp [bitsTextF, hg], hbel⟩

/-! ### Reading -/
def codes (l : List UInt8) : List Int := l.reverse.map fun c => (c.toNat : Int) - 48
/-- With -1 for letters that are none. -/
def codes1 (l : List UInt8) : List Int := l.reverse.map fun c => if inB ((c.toNat : Int) - 48) 0 1 = true then (c.toNat : Int) - 48 else -1
theorem codes_good (l : List UInt8) : allIn 0 1 (codes1 l) = allIn 0 1 (codes l) := by
  simp only [allIn, codes, codes1, List.all_map]
  congr 1
  funext c
  simp only [Function.comp_apply]
  cases h : inB ((c.toNat : Int) - 48) 0 1 <;> simp [h]; decide
theorem codes_eq {l : List UInt8} (h : allIn 0 1 (codes l) = true) : codes1 l = codes l := by
  simp only [codes, codes1]
  apply List.map_congr_left
  intro c hc
  have := allIn_iff.1 h ((c.toNat : Int) - 48) (by simp only [codes, List.mem_map]; exact ⟨c, hc, rfl⟩)
  rw [if_pos (inB_iff.2 this)]
theorem codes_drop {l : List UInt8} {j : Nat} {c : UInt8} (hx : l[j]? = some c) : codes (l.drop j) = codes (l.drop (j + 1)) ++ [(c.toNat : Int) - 48] := by
  have hj : j < l.length := (List.getElem?_eq_some_iff.1 hx).1
  rw [List.drop_eq_getElem_cons hj]
  have : l[j] = c := by rw [List.getElem?_eq_getElem hj] at hx; simpa using hx
  rw [this]; simp [codes]
theorem codes1_drop {l : List UInt8} {j : Nat} {c : UInt8} (hx : l[j]? = some c) : codes1 (l.drop j) = codes1 (l.drop (j + 1)) ++ [if inB ((c.toNat : Int) - 48) 0 1 = true then (c.toNat : Int) - 48 else -1] := by
  have hj : j < l.length := (List.getElem?_eq_some_iff.1 hx).1
  rw [List.drop_eq_getElem_cons hj]
  have : l[j] = c := by rw [List.getElem?_eq_getElem hj] at hx; simpa using hx
  rw [this]; simp [codes1]
theorem codes_length (l : List UInt8) : (codes l).length = l.length := by simp [codes]
theorem codes1_length (l : List UInt8) : (codes1 l).length = l.length := by simp [codes1]
def parseBitsF (s : ByteArray) : List Int × Bool := if goodB (codes s.data.toList) 64 = true then (codes s.data.toList, true) else ([], false)
theorem byte_at (s : ByteArray) (k : Nat) (h : k < s.size) : s.data.toList[k]? = some s[k] := by
  rw [List.getElem?_eq_getElem (by simpa using h)]; rfl
theorem btParse_any (s : ByteArray) (w : World) (hs : s.size ≤ 1048576) : Calls Try.prog 128 #[.string s] w (RetI (codes1 s.data.toList) w) := by
  go_enter Try.func128, Try.ntmps128
  go_wp2_with fail
  go_loopw [3, 4] (fun out i wr => ∃ (iv : Int) (co : Option Addr) (k cap : Nat), -1 ≤ iv ∧ iv < s.size ∧ (k : Int) + iv + 1 = s.size ∧ i = .int .i64 iv ∧ out = .slice co k cap ∧ OwnI w.heap.size wr co k cap (codes1 (s.data.toList.drop (iv + 1).toNat)) ∧ Below w.heap.size w wr) (fun _ i _ => (intOf i + 1).toNat)
  case atStart => exact ⟨_, _, 0, 0, by omega, by omega, by omega, rfl, rfl, by rw [show ((s.size : Int) - 1 + 1).toNat = s.size from by omega, List.drop_of_length_le (by simp)]; exact OwnI.nil _ _ _, Below.refl _ _⟩
  case round =>
    obtain ⟨iv, co, k, cap, h1, h2, h3, rfl, rfl, hout, hbel⟩ := hrel
    by_cases hlt : 0 ≤ iv
    · obtain ⟨j, rfl⟩ := Int.eq_ofNat_of_zero_le hlt
      have hj : j < s.size := by omega
      have HD := Lib.hid (codes1_drop (byte_at s j hj))
      have H3 := Lib.hid h3
      have hk3 : k ≤ 1048576 := by omega
      rw [show ((j : Int) + 1).toNat = j + 1 from by omega] at hout
      have hc : s[j].toNat < 256 := s[j].toNat_lt
      clear h3
      cases hin : inB ((s[j].toNat : Int) - 48) 0 1
      · have HI := Lib.hid hin
        go_wp2_with (first | (go_at_call 112; refine (l1In_any _ _ _ _).mono ?_; rintro e w' ⟨rfl, rfl⟩) | (at_builtin; refine wpList_append_i rfl _ _ rfl w.heap.size _ _ _ _ _ rfl rfl hout (by omega) hbel.size ?_; intro bo' cap'' w4 hown4 hg4))
        have hbel4 := below_append hbel hout.2.2 hg4 hbel.size
        go_roundw
        case rel => exact ⟨(j : Int) - 1, bo', k + 1, cap'', by omega, by omega, by have := H3.out; omega, rfl, rfl, by rw [show ((j : Int) - 1 + 1).toNat = j from by omega, HD.out, HI.out]; exact hown4, hbel4⟩
        case measure => simp [intOf] <;> omega
      · have HI := Lib.hid hin
        go_wp2_with (first | (go_at_call 112; refine (l1In_any _ _ _ _).mono ?_; rintro e w' ⟨rfl, rfl⟩) | (at_builtin; refine wpList_append_i rfl _ _ rfl w.heap.size _ _ _ _ _ rfl rfl hout (by omega) hbel.size ?_; intro bo' cap'' w4 hown4 hg4))
        have hbel4 := below_append hbel hout.2.2 hg4 hbel.size
        go_roundw
        case rel => exact ⟨(j : Int) - 1, bo', k + 1, cap'', by omega, by omega, by have := H3.out; omega, rfl, rfl, by rw [show ((j : Int) - 1 + 1).toNat = j from by omega, HD.out, HI.out]; exact hown4, hbel4⟩
        case measure => simp [intOf] <;> omega
    · obtain rfl : iv = -1 := by omega
      go_wp2_with fail
      go_ret
      exact ⟨_, _, _, rfl, hout, hbel⟩
theorem goodB_codes (l : List UInt8) (m : Int) : goodB (codes1 l) m = goodB (codes l) m := by simp [goodB, codes_good, codes_length, codes1_length]
theorem spec_ParseBits_any (s : ByteArray) (w : World) (hs : s.size ≤ 1048576) : Calls Try.prog 46 #[.string s] w (RetIB (parseBitsF s) w) := by
  cases hg : goodB (codes s.data.toList) 64
  · have hg1 := Lib.hid ((goodB_codes s.data.toList 64).trans hg)
    go_enter Try.func46, Try.ntmps46
    go_wp2_with (first | (go_at_call 128; refine (btParse_any _ _ hs).mono ?_; rintro e w1 ⟨a1, n1, c1, rfl, ho1, hb1⟩) | (go_at_call 25; refine (spec_AreBits_any _ _ _ _ _ _ ho1.ints).mono ?_; rintro e w' ⟨rfl, rfl⟩; rw [hg1.out]))
    go_ret2
    exact ⟨none, 0, 0, by simp [parseBitsF, hg], by simpa [parseBitsF, hg] using OwnI.nil _ _ _, hb1⟩
  · have hg1 := Lib.hid ((goodB_codes s.data.toList 64).trans hg)
    go_enter Try.func46, Try.ntmps46
    go_wp2_with (first | (go_at_call 128; refine (btParse_any _ _ hs).mono ?_; rintro e w1 ⟨a1, n1, c1, rfl, ho1, hb1⟩) | (go_at_call 25; refine (spec_AreBits_any _ _ _ _ _ _ ho1.ints).mono ?_; rintro e w' ⟨rfl, rfl⟩; rw [hg1.out]))
    go_ret2
    exact ⟨a1, n1, c1, by simp [parseBitsF, hg], by rw [codes_eq (goodB_iff.1 hg).2] at ho1; simpa [parseBitsF, hg] using ho1, hb1⟩
theorem impl_ParseBits_any (s : ByteArray) (w : World) (hs : s.size ≤ 1048576) : Calls Try.prog 45 #[.string s] w (RetIB (parseBitsF s) w) := by
  have hb0 : Below w.heap.size w (w.alloc (.cells #[] 3)) := (Below.refl _ _).alloc (Nat.le_refl _) _
  by_cases h64 : s.size ≤ 64
  · go_enter Try.func45, Try.ntmps45
    go_wp2_with fail
    go_loopw [4, 5] (fun out i wr => ∃ (iv : Int) (co : Option Addr) (k cap : Nat), -1 ≤ iv ∧ iv < s.size ∧ (k : Int) + iv + 1 = s.size ∧ i = .int .i64 iv ∧ out = .slice co k cap ∧ OwnI w.heap.size wr co k cap (codes (s.data.toList.drop (iv + 1).toNat)) ∧ Below w.heap.size w wr) (fun _ i _ => (intOf i + 1).toNat)
    case atStart => exact ⟨_, _, 0, 0, by omega, by omega, by omega, rfl, rfl, by rw [show ((s.size : Int) - 1 + 1).toNat = s.size from by omega, List.drop_of_length_le (by simp)]; exact OwnI.nil _ _ _, hb0⟩
    case round =>
      obtain ⟨iv, co, k, cap, h1, h2, h3, rfl, rfl, hout, hbel⟩ := hrel
      by_cases hlt : 0 ≤ iv
      · obtain ⟨j, rfl⟩ := Int.eq_ofNat_of_zero_le hlt
        have hj : j < s.size := by omega
        have HD := Lib.hid (codes_drop (byte_at s j hj))
        have H3 := Lib.hid h3
        have hk3 : k ≤ 1048576 := by omega
        rw [show ((j : Int) + 1).toNat = j + 1 from by omega] at hout
        have hc : s[j].toNat < 256 := s[j].toNat_lt
        clear h3
        go_wp2_with (at_builtin; refine wpList_append_i rfl _ _ rfl w.heap.size _ _ _ _ _ rfl rfl hout (by omega) hbel.size ?_; intro bo' cap'' w4 hown4 hg4)
        have hbel4 := below_append hbel hout.2.2 hg4 hbel.size
        go_roundw
        case rel => exact ⟨(j : Int) - 1, bo', k + 1, cap'', by omega, by omega, by have := H3.out; omega, rfl, rfl, by rw [show ((j : Int) - 1 + 1).toNat = j from by omega, HD.out]; exact hown4, hbel4⟩
        case measure => simp [intOf] <;> omega
      · obtain rfl : iv = -1 := by omega
        have hout' : OwnI w.heap.size wr co k cap (codes s.data.toList) := hout
        clear hout
        cases hg : goodB (codes s.data.toList) 64
        · go_wp2_with (go_at_call 24; refine (impl_AreBits_any _ _ _ _ _ hout'.ints).mono ?_; rintro e w1 ⟨rfl, hb1⟩; rw [hg])
          go_ret2
          exact ⟨none, 0, 0, by simp [parseBitsF, hg], by simpa [parseBitsF, hg] using OwnI.nil _ _ _, hbel.trans (hb1.mono hbel.size)⟩
        · go_wp2_with (go_at_call 24; refine (impl_AreBits_any _ _ _ _ _ hout'.ints).mono ?_; rintro e w1 ⟨rfl, hb1⟩; rw [hg])
          go_ret2
          exact ⟨co, k, cap, by simp [parseBitsF, hg], by simpa [parseBitsF, hg] using hout'.below hb1 (Nat.le_refl _), hbel.trans (hb1.mono hbel.size)⟩
  · have h64' : (64 : Int) < s.size := by omega
    have hg : goodB (codes s.data.toList) 64 = false := by
      cases h : goodB (codes s.data.toList) 64
      · rfl
      · have := (goodB_iff.1 h).1
        rw [codes_length] at this
        simp at this; omega
    go_enter Try.func45, Try.ntmps45
    go_wp2_with fail
    go_ret2
    exact ⟨none, 0, 0, by simp [parseBitsF, hg], by simpa [parseBitsF, hg] using OwnI.nil _ _ _, hb0⟩
end Go.Proofs.Ytnpndpmelgfmbaa
