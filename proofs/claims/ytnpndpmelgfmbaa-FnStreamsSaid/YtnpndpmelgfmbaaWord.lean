/-
  Chapter 1, third part: bits that differ, opposite bits, turned bits; values of polynomials; streams.
-/
import Derived.Test.YtnpndpmelgfmbaaNum
import Derived.Test.YtnpndpmelgfmbaaField
import Derived.Test.YtnpndpmelgfmbaaBits1
namespace Go.Proofs.Ytnpndpmelgfmbaa
open Go.RowKit

/-! ### Exclusive or -/
def xorL (xs ys : List Int) : List Int := List.zipWith (fun x y => (x + y) % 2) xs ys
theorem xorL_length {xs ys : List Int} (h : xs.length = ys.length) : (xorL xs ys).length = xs.length := by simp [xorL, h]
theorem bit_x {x y : Int} (hx : 0 ≤ x ∧ x ≤ 1) (hy : 0 ≤ y ∧ y ≤ 1) : bits .xor .i64 x y = (x + y) % 2 := by
  rcases (show x = 0 ∨ x = 1 by omega) with rfl | rfl <;> rcases (show y = 0 ∨ y = 1 by omega) with rfl | rfl <;> decide
theorem xorL_get {xs ys : List Int} {k : Nat} {x y : Int} (hx : xs[k]? = some x) (hy : ys[k]? = some y) : (xorL xs ys)[k]? = some ((x + y) % 2) := by
  simp [xorL, List.getElem?_zipWith, hx, hy]
theorem take_get {zs : List Int} {k : Nat} {z : Int} (h : zs[k]? = some z) : zs.take (k + 1) = zs.take k ++ [z] := by rw [List.take_add_one, h]; rfl
theorem btXor_any (w : World) (ao bo : Option Addr) (n c d : Nat) (xs ys : List Int) (ha : Ints w w.heap.size ao n xs) (hb : Ints w w.heap.size bo n ys) (hn : n ≤ 64) (hxb : allIn 0 1 xs = true) (hyb : allIn 0 1 ys = true) :
    Calls Try.prog 109 #[.slice ao n c, .slice bo n d] w (RetI (xorL xs ys) w) := by
  have HX := Lib.hid hxb
  have HY := Lib.hid hyb
  have hl := Lib.hid ha.1
  have hl2 := Lib.hid hb.1
  clear hxb hyb
  go_enter Try.func109, Try.ntmps109
  go_wp2_with fail
  go_loopw [5, 10] (fun out i wr => ∃ (k : Nat) (co : Option Addr) (cap : Nat), k ≤ n ∧ i = .int .i64 k ∧ out = .slice co k cap ∧ OwnI w.heap.size wr co k cap ((xorL xs ys).take k) ∧ Below w.heap.size w wr) (fun _ i _ => n - (intOf i).toNat)
  case atStart => exact ⟨0, _, 0, Nat.zero_le _, rfl, rfl, OwnI.nil _ _ _, Below.refl _ _⟩
  case round =>
    obtain ⟨k, co, cap, hk, rfl, rfl, hout, hbel⟩ := hrel
    by_cases hlt : k < n
    · obtain ⟨b1, o1, x, rfl, hbl1, hx, hc1⟩ := ha.at hlt
      obtain ⟨b2, o2, y, rfl, hbl2, hy, hc2⟩ := hb.at hlt
      have g1 : wr.cell? ⟨b1, o1 + k, none⟩ = some (.int .i64 x) := (hbel.cell (by exact hbl1)).trans hc1
      have g2 : wr.cell? ⟨b2, o2 + k, none⟩ = some (.int .i64 y) := (hbel.cell (by exact hbl2)).trans hc2
      have hbit := bit_x (allIn_iff.1 HX.out x (List.mem_of_getElem? hx)) (allIn_iff.1 HY.out y (List.mem_of_getElem? hy))
      have HS := Lib.hid (take_get (xorL_get hx hy))
      clear hx hy
      go_wp2_with (at_builtin; refine wpList_append_i rfl _ _ rfl w.heap.size _ _ _ _ _ rfl rfl hout (by omega) hbel.size ?_; intro bo' cap'' w4 hown4 hg4)
      have hbel4 := below_append hbel hout.2.2 hg4 hbel.size
      go_roundw
      case rel => exact ⟨k + 1, bo', cap'', by omega, by go_num, rfl, by rw [HS.out]; exact hown4, hbel4⟩
      case measure => simp [intOf] <;> omega
    · obtain rfl : k = n := by omega
      rw [List.take_of_length_le (by rw [xorL_length (hl.out.trans hl2.out.symm), hl.out]; exact Nat.le_refl _)] at hout
      go_wp2_with fail
      go_ret
      exact ⟨_, _, _, rfl, hout, hbel⟩
def xorBitsF (xs ys : List Int) : List Int × Bool := if (goodB xs 64 && goodB ys 64 && decide (xs.length = ys.length)) = true then (xorL xs ys, true) else ([], false)
theorem spec_XorBits_any (w : World) (ao bo : Option Addr) (n m c d : Nat) (xs ys : List Int) (ha : Ints w w.heap.size ao n xs) (hb : Ints w w.heap.size bo m ys) :
    Calls Try.prog 33 #[.slice ao n c, .slice bo m d] w (RetIB (xorBitsF xs ys) w) := by
  have hl := Lib.hid ha.1
  have hl2 := Lib.hid hb.1
  cases hg : goodB xs 64
  · go_enter Try.func33, Try.ntmps33
    go_wp2_with (go_at_call 25; refine (spec_AreBits_any _ _ _ _ _ _ ha).mono ?_; rintro e w' ⟨rfl, rfl⟩)
    go_ret2
    exact ⟨none, 0, 0, by simp [xorBitsF, hg], by simpa [xorBitsF, hg] using OwnI.nil _ _ _, Below.refl _ _⟩
  cases hg2 : goodB ys 64
  · go_enter Try.func33, Try.ntmps33
    go_wp2_with fail
    refine (spec_AreBits_any _ _ _ _ _ _ ha).mono ?_
    rintro e w' ⟨rfl, rfl⟩
    go_wp2_with fail
    refine (spec_AreBits_any _ _ _ _ _ _ hb).mono ?_
    rintro e w' ⟨rfl, rfl⟩
    go_wp2_with fail
    go_ret2
    exact ⟨none, 0, 0, by simp [xorBitsF, hg2], by simpa [xorBitsF, hg2] using OwnI.nil _ _ _, Below.refl _ _⟩
  by_cases hnm : n = m
  · subst hnm
    have h2 := goodB_iff.1 hg
    have h3 := goodB_iff.1 hg2
    rw [hl.out] at h2
    have H2 := Lib.hid h2
    have H3 := Lib.hid h3
    clear h2 h3
    go_enter Try.func33, Try.ntmps33
    go_wp2_with fail
    refine (spec_AreBits_any _ _ _ _ _ _ ha).mono ?_
    rintro e w' ⟨rfl, rfl⟩
    go_wp2_with fail
    refine (spec_AreBits_any _ _ _ _ _ _ hb).mono ?_
    rintro e w' ⟨rfl, rfl⟩
    go_wp2_with fail
    refine (btXor_any _ _ _ _ _ _ _ _ ha hb (by have := H2.out.1; omega) H2.out.2 H3.out.2).mono ?_
    rintro e w1 ⟨a1, n1, c1, rfl, ho1, hb1⟩
    go_wp2_with fail
    go_ret2
    exact ⟨a1, n1, c1, by simp [xorBitsF, hg, hg2, hl.out, hl2.out], by simpa [xorBitsF, hg, hg2, hl.out, hl2.out] using ho1, hb1⟩
  · have hnm' : ((n : Int) != (m : Int)) = true := by simp; omega
    go_enter Try.func33, Try.ntmps33
    go_wp2_with fail
    refine (spec_AreBits_any _ _ _ _ _ _ ha).mono ?_
    rintro e w' ⟨rfl, rfl⟩
    go_wp2_with fail
    refine (spec_AreBits_any _ _ _ _ _ _ hb).mono ?_
    rintro e w' ⟨rfl, rfl⟩
    go_wp2_with fail
    go_ret2
    exact ⟨none, 0, 0, by simp [xorBitsF, hl.out, hl2.out, hnm], by simpa [xorBitsF, hl.out, hl2.out, hnm] using OwnI.nil _ _ _, Below.refl _ _⟩
/-- One cell of an owned row, its address known. -/
theorem OwnI.cell {B : Nat} {w : World} {g n cap : Nat} {xs : List Int} (h : OwnI B w (some ⟨g, 0, none⟩) n cap xs) {k : Nat} {x : Int} (hx : xs[k]? = some x) : w.cell? ⟨g, k, none⟩ = some (.int .i64 x) := by
  have hk : k < n := by rw [← h.1]; exact (List.getElem?_eq_some_iff.1 hx).1
  obtain ⟨y, hy, hc⟩ := h.ints.at' hk
  rw [hx] at hy
  simp at hy hc
  rw [hc, hy]
/-- A store into an owned row. -/
theorem OwnI.set {B : Nat} {w : World} {g n cap : Nat} {xs : List Int} (h : OwnI B w (some ⟨g, 0, none⟩) n cap xs) {k : Nat} (hk : k < n) (v : Int) :
    OwnI B (w.setCell ⟨g, k, none⟩ (.int .i64 v)) (some ⟨g, 0, none⟩) n cap (xs.set k v) ∧ w.grownBy (w.setCell ⟨g, k, none⟩ (.int .i64 v)) (rowOf (some ⟨g, 0, none⟩) cap) ∧ w.frozen? ⟨g, k, none⟩ = false := by
  obtain ⟨g', hg', _, _, hr⟩ := h.2.2.some (by omega)
  simp at hg'
  subst hg'
  have hcap : cap ≠ 0 := by
    rcases hr.2 with ⟨hv, h0⟩ | ⟨g2, cap2, cur, hv, _, _, hn', _⟩
    · omega
    · simp only [Value.slice.injEq] at hv
      obtain ⟨_, _, rfl⟩ := hv
      omega
  have hst := World.ownsRow.stored hr k (.int .i64 v)
  rw [← List.map_set] at hst
  exact ⟨⟨by simp [h.1], h.2.1, .inr ⟨g, rfl, hst.1⟩⟩, by simpa [rowOf, hcap] using hst.2, World.ownsRow.frozenAt hr k⟩
theorem below_set {B : Nat} {w0 w w' : World} {ao : Option Addr} {n cap : Nat} {xs : List Int} (hb : Below B w0 w) (hown : OwnI B w ao n cap xs) (hg : w.grownBy w' (rowOf ao cap)) (hB : B ≤ w.heap.size) : Below B w0 w' :=
  hb.grown hg hB fun k hk => (hown.rowLt k hk).1
theorem xor_set {xs ys : List Int} {n k : Nat} {v : Int} (hl : xs.length = n) (hl2 : ys.length = n) (hk : k < n) (hv : (xorL xs ys)[k]? = some v) : ((xorL xs ys).take k ++ xs.drop k).set k v = (xorL xs ys).take (k + 1) ++ xs.drop (k + 1) := by
  have hlx : (xorL xs ys).length = n := by rw [xorL_length (hl.trans hl2.symm), hl]
  have hkl : ((xorL xs ys).take k).length = k := by simp [hlx]; omega
  rw [List.set_append_right _ _ (by omega), hkl, Nat.sub_self, take_get hv, List.drop_eq_getElem_cons (by omega), List.set_cons_zero, List.append_assoc]
  rfl
theorem mid_get {zs xs : List Int} {n k : Nat} {x : Int} (hz : zs.length = n) (hx : xs[k]? = some x) (hk : k < n) : (zs.take k ++ xs.drop k)[k]? = some x := by
  have hkl : (zs.take k).length = k := by simp [hz]; omega
  rw [List.getElem?_append_right (by omega), hkl, Nat.sub_self, List.getElem?_drop]
  simpa using hx
theorem impl_XorBits_any (w : World) (ao bo : Option Addr) (n m c d : Nat) (xs ys : List Int) (ha : Ints w w.heap.size ao n xs) (hb : Ints w w.heap.size bo m ys) :
    Calls Try.prog 32 #[.slice ao n c, .slice bo m d] w (RetIB (xorBitsF xs ys) w) := by
  have hl := Lib.hid ha.1
  have hl2 := Lib.hid hb.1
  cases hg : goodB xs 64
  · go_enter Try.func32, Try.ntmps32
    go_wp2_with (go_at_call 24; refine (impl_AreBits_any _ _ _ _ _ ha).mono ?_; rintro e w1 ⟨rfl, hb1⟩)
    go_ret2
    exact ⟨none, 0, 0, by simp [xorBitsF, hg], by simpa [xorBitsF, hg] using OwnI.nil _ _ _, hb1⟩
  cases hg2 : goodB ys 64
  · go_enter Try.func32, Try.ntmps32
    go_wp2_with fail
    refine (impl_AreBits_any _ _ _ _ _ ha).mono ?_
    rintro e w1 ⟨rfl, hb1⟩
    go_wp2_with fail
    refine (impl_AreBits_any _ _ _ _ _ ((hb.below hb1 (Nat.le_refl _)).up hb1.size)).mono ?_
    rintro e w2 ⟨rfl, hb2⟩
    go_wp2_with fail
    go_ret2
    exact ⟨none, 0, 0, by simp [xorBitsF, hg2], by simpa [xorBitsF, hg2] using OwnI.nil _ _ _, hb1.trans (hb2.mono hb1.size)⟩
  by_cases hnm : n = m
  · subst hnm
    have h2 := goodB_iff.1 hg
    have h3 := goodB_iff.1 hg2
    rw [hl.out] at h2
    have hn64 : n ≤ 64 := by omega
    have H2 := Lib.hid h2
    have H3 := Lib.hid h3
    clear h2 h3
    go_enter Try.func32, Try.ntmps32
    go_wp2_with fail
    refine (impl_AreBits_any _ _ _ _ _ ha).mono ?_
    rintro e w1 ⟨rfl, hb1⟩
    go_wp2_with fail
    refine (impl_AreBits_any _ _ _ _ _ ((hb.below hb1 (Nat.le_refl _)).up hb1.size)).mono ?_
    rintro e w2 ⟨rfl, hb2⟩
    have hb12 := hb1.trans (hb2.mono hb1.size)
    go_wp2_with fail
    refine (cloneI_any _ _ _ _ _ _ (ha.below hb12 (Nat.le_refl _)) hb12.size (by omega)).mono ?_
    rintro e w3 ⟨a3, n3, c3, rfl, ho3, hb3⟩
    have hb13 := hb12.trans (hb3.mono hb12.size)
    have ho3' := ho3.up hb12.size
    have hn3 : n3 = n := ho3.1.symm.trans hl.out
    subst hn3
    clear ho3
    go_wp2_with fail
    go_loopw [27] (fun i wr => ∃ k : Nat, k ≤ n3 ∧ i = .int .i64 k ∧ OwnI w.heap.size wr a3 n3 c3 ((xorL xs ys).take k ++ xs.drop k) ∧ Below w.heap.size w wr) (fun i _ => n3 - (intOf i).toNat)
    case atStart => exact ⟨0, Nat.zero_le _, rfl, by simpa using ho3', hb13⟩
    case round =>
      obtain ⟨k, hk, rfl, hout, hbel⟩ := hrel
      by_cases hlt : k < n3
      · obtain ⟨b1, o1, x, rfl, hbl1, hx, hc1⟩ := ha.at hlt
        obtain ⟨b2, o2, y, rfl, hbl2, hy, hc2⟩ := hb.at hlt
        obtain ⟨g, rfl, _, _, _⟩ := hout.2.2.some (by omega)
        have hlx : (xorL xs ys).length = n3 := by rw [xorL_length (hl.out.trans hl2.out.symm), hl.out]
        have g1 := hout.cell (mid_get hlx hx hlt)
        have g2 : wr.cell? ⟨b2, o2 + k, none⟩ = some (.int .i64 y) := (hbel.cell (by exact hbl2)).trans hc2
        have hbit := bit_x (allIn_iff.1 H2.out.2 x (List.mem_of_getElem? hx)) (allIn_iff.1 H3.out.2 y (List.mem_of_getElem? hy))
        obtain ⟨s1, s2, s3⟩ := hout.set hlt ((x + y) % 2)
        rw [xor_set hl.out hl2.out hlt (xorL_get hx hy)] at s1
        have hbel2 := below_set hbel hout s2 hbel.size
        clear hx hy hlx hout s2
        go_wp2_with fail
        go_region
        all_goals
          go_wp2_with fail
          go_roundw
          case rel => exact ⟨k + 1, by omega, by go_num, s1, hbel2.drew⟩
          case measure => simp [intOf] <;> omega
      · obtain rfl : k = n3 := by omega
        rw [List.drop_of_length_le (by rw [hl.out]; exact Nat.le_refl _), List.append_nil, List.take_of_length_le (by rw [xorL_length (hl.out.trans hl2.out.symm), hl.out]; exact Nat.le_refl _)] at hout
        go_wp2_with fail
        go_ret2
        exact ⟨a3, k, c3, by simp [xorBitsF, hg, hg2, hl.out, hl2.out], by simpa [xorBitsF, hg, hg2, hl.out, hl2.out] using hout, hbel⟩
  · have hnm' : ((n : Int) != (m : Int)) = true := by simp; omega
    go_enter Try.func32, Try.ntmps32
    go_wp2_with fail
    refine (impl_AreBits_any _ _ _ _ _ ha).mono ?_
    rintro e w1 ⟨rfl, hb1⟩
    go_wp2_with fail
    refine (impl_AreBits_any _ _ _ _ _ ((hb.below hb1 (Nat.le_refl _)).up hb1.size)).mono ?_
    rintro e w2 ⟨rfl, hb2⟩
    go_wp2_with fail
    go_ret2
    exact ⟨none, 0, 0, by simp [xorBitsF, hl.out, hl2.out, hnm], by simpa [xorBitsF, hl.out, hl2.out, hnm] using OwnI.nil _ _ _, hb1.trans (hb2.mono hb1.size)⟩

/-! ### Opposite bits -/
def notL (xs : List Int) : List Int := xs.map fun x => 1 - x
theorem notL_length (xs : List Int) : (notL xs).length = xs.length := by simp [notL]
theorem notL_get {xs : List Int} {k : Nat} {x : Int} (hx : xs[k]? = some x) : (notL xs)[k]? = some (1 - x) := by simp [notL, hx]
theorem bit_not {x : Int} (hx : 0 ≤ x ∧ x ≤ 1) : bits .xor .i64 x 1 = 1 - x := by
  rcases (show x = 0 ∨ x = 1 by omega) with rfl | rfl <;> decide
def notBitsF (xs : List Int) : List Int × Bool := if goodB xs 64 = true then (notL xs, true) else ([], false)
theorem map_set {zs xs : List Int} {n k : Nat} {v : Int} (hl : xs.length = n) (hz : zs.length = n) (hk : k < n) (hv : zs[k]? = some v) : (zs.take k ++ xs.drop k).set k v = zs.take (k + 1) ++ xs.drop (k + 1) := by
  have hkl : (zs.take k).length = k := by simp [hz]; omega
  rw [List.set_append_right _ _ (by omega), hkl, Nat.sub_self, take_get hv, List.drop_eq_getElem_cons (by omega), List.set_cons_zero, List.append_assoc]
  rfl
theorem impl_NotBits_any (w : World) (ao : Option Addr) (n c : Nat) (xs : List Int) (ha : Ints w w.heap.size ao n xs) :
    Calls Try.prog 48 #[.slice ao n c] w (RetIB (notBitsF xs) w) := by
  have hl := Lib.hid ha.1
  cases hg : goodB xs 64
  · go_enter Try.func48, Try.ntmps48
    go_wp2_with (go_at_call 24; refine (impl_AreBits_any _ _ _ _ _ ha).mono ?_; rintro e w1 ⟨rfl, hb1⟩)
    go_ret2
    exact ⟨none, 0, 0, by simp [notBitsF, hg], by simpa [notBitsF, hg] using OwnI.nil _ _ _, hb1⟩
  · have h2 := goodB_iff.1 hg
    rw [hl.out] at h2
    have hn64 : n ≤ 64 := by omega
    have H2 := Lib.hid h2
    clear h2
    go_enter Try.func48, Try.ntmps48
    go_wp2_with fail
    refine (impl_AreBits_any _ _ _ _ _ ha).mono ?_
    rintro e w2 ⟨rfl, hb12⟩
    go_wp2_with fail
    refine (cloneI_any _ _ _ _ _ _ (ha.below hb12 (Nat.le_refl _)) hb12.size (by omega)).mono ?_
    rintro e w3 ⟨a3, n3, c3, rfl, ho3, hb3⟩
    have hb13 := hb12.trans (hb3.mono hb12.size)
    have ho3' := ho3.up hb12.size
    have hn3 : n3 = n := ho3.1.symm.trans hl.out
    subst hn3
    clear ho3
    go_wp2_with fail
    go_loopw [13] (fun i wr => ∃ k : Nat, k ≤ n3 ∧ i = .int .i64 k ∧ OwnI w.heap.size wr a3 n3 c3 ((notL xs).take k ++ xs.drop k) ∧ Below w.heap.size w wr) (fun i _ => n3 - (intOf i).toNat)
    case atStart => exact ⟨0, Nat.zero_le _, rfl, by simpa using ho3', hb13⟩
    case round =>
      obtain ⟨k, hk, rfl, hout, hbel⟩ := hrel
      by_cases hlt : k < n3
      · obtain ⟨b1, o1, x, rfl, hbl1, hx, hc1⟩ := ha.at hlt
        obtain ⟨g, rfl, _, _, _⟩ := hout.2.2.some (by omega)
        have hlx : (notL xs).length = n3 := by rw [notL_length, hl.out]
        have g1 := hout.cell (mid_get hlx hx hlt)
        have hbit := bit_not (allIn_iff.1 H2.out.2 x (List.mem_of_getElem? hx))
        obtain ⟨s1, s2, s3⟩ := hout.set hlt (1 - x)
        rw [map_set hl.out hlx hlt (notL_get hx)] at s1
        have hbel2 := below_set hbel hout s2 hbel.size
        clear hx hlx hout s2
        go_wp2_with fail
        go_roundw
        case rel => exact ⟨k + 1, by omega, by go_num, s1, hbel2⟩
        case measure => simp [intOf] <;> omega
      · obtain rfl : k = n3 := by omega
        rw [List.drop_of_length_le (by rw [hl.out]; exact Nat.le_refl _), List.append_nil, List.take_of_length_le (by rw [notL_length, hl.out]; exact Nat.le_refl _)] at hout
        go_wp2_with fail
        go_ret2
        exact ⟨a3, k, c3, by simp [notBitsF, hg], by simpa [notBitsF, hg] using hout, hbel⟩
end Go.Proofs.Ytnpndpmelgfmbaa
