/-
  Texts of programs: numbers as texts.
-/
import Derived.Test.YtdlddkgmjpmenaaGreatDoorHB
import Derived.Laws.BytesArg
import Derived.Lib.ItoaNum
import Derived.Deep.RegionLaw
import Derived.Test.YtdlddkgmjpmenaaGreatDoorHNd
namespace Go.Proofs.YtdlddkgmjpmenaaGreatDoor
open Go.RowKit
set_option linter.unusedVariables false
set_option linter.unusedSimpArgs false

def bt (l : List UInt8) : ByteArray := ⟨l.toArray⟩
theorem bt_append (a b : List UInt8) : bt a ++ bt b = bt (a ++ b) := by
  apply ByteArray.ext
  simp [bt]
theorem bt_of (s : ByteArray) : s = bt s.data.toList := rfl
theorem bt_list (a : List UInt8) : (bt a).data.toList = a := by simp [bt]
theorem str_conv (w : World) (b off len cap : Nat) (xs : List Int) (hlen : xs.length = len) (hcell : ∀ i, i < len → w.cell? ⟨b, off + i, none⟩ = some (.int .u8 (xs.getD i 0))) :
    (convert 28 9 (.slice (some ⟨b, off, none⟩) len cap)).run Tryz.prog w = .ok (.string (strOfNums xs)) w :=
  run_convert_bytes_arg w 28 5 Tryz.underlying28 Tryz.underlying5 b off len cap xs hlen hcell 9 Tryz.underlying9
theorem str_conv1 (w : World) (x : Int) : (convert 28 9 (.slice (some ⟨w.heap.size, 0, none⟩) 1 1)).run Tryz.prog (w.alloc (.cells #[.int .u8 x] 5)) = .ok (.string (strOfNums [x])) (w.alloc (.cells #[.int .u8 x] 5)) := by
  refine str_conv _ _ _ _ _ [x] rfl fun i hi => ?_
  obtain rfl : i = 0 := by omega
  rw [cell_of_row _ w.heap.size 0 #[.int .u8 x] 5 (0, 0) (heap_alloc_new w _)]; rfl
theorem str_conv_at (w : World) (g : Nat) (x : Int) (h : w.heap[g]? = some (.cells #[.int .u8 x] 5 (0, 0))) : (convert 28 9 (.slice (some ⟨g, 0, none⟩) 1 1)).run Tryz.prog w = .ok (.string (strOfNums [x])) w := by
  refine str_conv _ _ _ _ _ [x] rfl fun i hi => ?_
  obtain rfl : i = 0 := by omega
  rw [cell_of_row _ g 0 #[.int .u8 x] 5 (0, 0) h]; rfl
theorem digit_str (n : Nat) : strOfNums [48 + (n : Int)] = bt [UInt8.ofNat (48 + n)] := by
  have : (48 + (n : Int)).toNat = 48 + n := by omega
  unfold strOfNums bt
  rw [List.map_cons, List.map_nil, this]
def RetT (s : ByteArray) (w : World) (e : Ending) (w' : World) : Prop := e = .returned (.string s) ∧ Below w.heap.size w w'
theorem ret_str {a b : ByteArray} (h : a = b) : Ending.returned (.string a) = .returned (.string b) := by rw [h]
set_option maxRecDepth 20000 in
theorem l1Num_digit (n : Nat) (hn : n < 10) (w : World) : Calls Tryz.prog 71 #[.int .i64 n] w (RetT (strOfNums [48 + (n : Int)]) w) := by
  have hcv := str_conv1 w (48 + (n : Int))
  have hb0 : Below w.heap.size w (w.alloc (.cells #[.int .u8 (48 + (n : Int))] 5)) := (Below.refl _ _).alloc (Nat.le_refl _) _
  obtain ⟨s1, hs1⟩ : ∃ s, s = strOfNums [48 + (n : Int)] := ⟨_, rfl⟩
  rw [← hs1] at hcv ⊢
  clear hs1
  go_enter Tryz.func71, Tryz.ntmps71
  go_wp2_with fail
  go_ret
  exact ⟨rfl, hb0⟩
theorem dec_len (u : Nat) : (Lib.decDigits u).length ≤ u + 1 := by
  induction u using Nat.strongRecOn with
  | _ u ih =>
    rw [Lib.decDigits]
    split
    · simp
    · have := ih (u / 10) (by omega)
      rw [List.length_append]
      simp
      omega
def numT (n : Int) : ByteArray := bt (Lib.decDigits n.toNat)
theorem numT_size (n : Int) : (numT n).size ≤ n.toNat + 1 := by
  have := dec_len n.toNat
  simpa [numT, bt, ByteArray.size] using this
theorem numT_small {n : Nat} (h : n < 10) : numT n = strOfNums [48 + (n : Int)] := by
  rw [digit_str]
  unfold numT
  rw [show ((n : Int)).toNat = n by omega, Lib.decDigits, dif_pos h]
theorem numT_big {n : Nat} (h : ¬ n < 10) : numT n = numT ((n / 10 : Nat) : Int) ++ strOfNums [48 + ((n % 10 : Nat) : Int)] := by
  rw [digit_str]
  unfold numT
  rw [bt_append, show ((n : Int)).toNat = n by omega, show (((n / 10 : Nat) : Int)).toNat = n / 10 by omega]
  conv => lhs; rw [Lib.decDigits, dif_neg h]
set_option maxRecDepth 20000 in
set_option maxHeartbeats 4000000 in
theorem l1Num_any : ∀ (d n : Nat) (w : World), n < 10 ^ (d + 1) → n ≤ 1000000 → Calls Tryz.prog 71 #[.int .i64 n] w (RetT (numT n) w)
  | d, n, w, h, h6 => by
    by_cases h10 : n < 10
    · rw [numT_small h10]
      exact l1Num_digit n h10 w
    · obtain ⟨d, rfl⟩ : ∃ d', d = d' + 1 := by
        cases d with
        | zero => omega
        | succ d => exact ⟨d, rfl⟩
      have hn : n / 10 < 10 ^ (d + 1) := by
        rw [Nat.pow_succ] at h
        omega
      have ih := fun w => l1Num_any d (n / 10) w hn (by omega)
      rw [show ((n / 10 : Nat) : Int) = (n : Int) / 10 by omega] at ih
      have IH := Lib.hid ih
      clear ih
      have hN := numT_big h10
      rw [show ((n / 10 : Nat) : Int) = (n : Int) / 10 by omega] at hN
      have HN := Lib.hid hN
      clear hN
      have hz0 := numT_size ((n : Int) / 10)
      obtain ⟨s1, hs1⟩ : ∃ s, s = strOfNums [48 + ((n % 10 : Nat) : Int)] := ⟨_, rfl⟩
      rw [← hs1] at HN
      obtain ⟨s0, hs0⟩ : ∃ s, s = numT ((n : Int) / 10) := ⟨_, rfl⟩
      rw [← hs0] at HN IH hz0
      have hz1 : s1.size = 1 := by rw [hs1]; rfl
      have hzz : ¬ 9223372036854775807 < s0.size + s1.size := by omega
      clear hz0 hz1
      have hcv : ∀ W : World, (convert 28 9 (.slice (some ⟨W.heap.size, 0, none⟩) 1 1)).run Tryz.prog (W.alloc (.cells #[.int .u8 (48 + (n : Int) % 10)] 5)) = .ok (.string s1) (W.alloc (.cells #[.int .u8 (48 + (n : Int) % 10)] 5)) := fun W => by
        rw [hs1]; exact str_conv1 W _
      have HCV : Hid (∀ (W : World) (g : Nat), W.heap[g]? = some (.cells #[.int .u8 (48 + (n : Int) % 10)] 5 (0, 0)) → (convert 28 9 (.slice (some ⟨g, 0, none⟩) 1 1)).run Tryz.prog W = .ok (.string s1) W) := fun W g h => by
        rw [hs1]; exact str_conv_at W g _ h
      have hcv2 := HCV.out (w.alloc (.cells #[.int .u8 (48 + (n : Int) % 10)] 5)).drew w.heap.size (heap_alloc_new w _)
      have hn10 : ¬ (n : Int) < 10 := by omega
      have hq1 : IntKind.i64.wrap ((n : Int) / 10) = (n : Int) / 10 := by rw [IntKind.wrap_i64]; omega
      have hq2 : (n : Int).tmod 10 = (n : Int) % 10 := Int.tmod_eq_emod_of_nonneg (by omega)
      have hq3 : IntKind.i64.wrap (48 + (n : Int) % 10) = 48 + (n : Int) % 10 := by rw [IntKind.wrap_i64]; omega
      have hq4 : IntKind.u8.wrap (48 + (n : Int) % 10) = 48 + (n : Int) % 10 := by rw [IntKind.wrap_u8]; omega
      clear h hn hs1 hs0
      go_enter Tryz.func71, Tryz.ntmps71
      go_wp2_with fail
      go_region_law
        (first
          | (go_simp; go_at_call 71; refine (IH.out _).mono ?_; rintro e w2 ⟨rfl, hb2⟩; first | (have k2 := HCV.out w2 w.heap.size ((hb2.block w.heap.size (by simp)).trans (heap_alloc_new w _))) | skip; try go_wp2_with fail))
      all_goals
        have hbd : Below w.heap.size w w.drew := bdrewN (Below.refl _ _) 1
        have hba : Below w.heap.size w (w.alloc (.cells #[.int .u8 (48 + (n : Int) % 10)] 5)).drew := bdrewN ((Below.refl _ _).alloc (Nat.le_refl _) _) 1
        go_wp2_with fail
        go_ret
        first
          | exact ⟨ret_str HN.out.symm, (hbd.trans (hb2.mono (Nat.le_refl _))).alloc (hbd.trans (hb2.mono (Nat.le_refl _))).size _⟩
          | exact ⟨ret_str HN.out.symm, hba.trans (hb2.mono hba.size)⟩
end Go.Proofs.YtdlddkgmjpmenaaGreatDoor
/-
  Texts of programs: what a line of a valid program is, and its text.
-/
namespace Go.Proofs.YtdlddkgmjpmenaaGreatDoor
open Go.RowKit
set_option linter.unusedVariables false
set_option linter.unusedSimpArgs false

theorem partsBy_length {f : ByteArray → Int} {ws : List Int} : ∀ {ps : List ByteArray} {w : List Int}, partsBy f ws ps = some w → w.length = ps.length
  | [], w, h => by simp [partsBy] at h; rw [h]; rfl
  | q :: r, w, h => by
    unfold partsBy at h
    split at h
    · cases h
    · cases hr : partsBy f ws r with
      | none => rw [hr] at h; simp at h
      | some v =>
        rw [hr] at h
        simp at h
        rw [← h, List.length_cons, List.length_cons, partsBy_length hr]
theorem pow_le_10 {n : Nat} (h : n ≤ 10) : (2 : Int) ^ n ≤ 1024 := by
  have := Nat.pow_le_pow_right (n := 2) (by decide) h
  have h2 : ((2 ^ n : Nat) : Int) ≤ ((2 ^ 10 : Nat) : Int) := by exact_mod_cast this
  simpa using h2
theorem line_good {ls : List Ln} (hg : laGoodF ls = true) {k : Nat} {x : Ln} (h : ls[k]? = some x) :
    (x.parts.length : Int) = laParts x.kind ∧ (x.kind = 1 → (0 ≤ x.party ∧ x.party ≤ 1) ∧ (1 ≤ x.width ∧ x.width ≤ 10)) ∧ (x.kind = 2 → (1 ≤ x.width ∧ x.width ≤ 10) ∧ (0 ≤ x.value ∧ x.value ≤ 1023)) ∧ (1 ≤ x.kind ∧ x.kind ≤ 6) := by
  have hok := ((widths_good ls).2 hg).2
  have h1 := laWidths_get h
  have h2 := hok.2.1 k _ h1
  unfold laWidth at h2
  cases hw : partsBy (findF (ls.take k)) (laWidths (ls.take k)) x.parts with
  | none => rw [hw] at h2; simp at h2
  | some w =>
    have hl := partsBy_length hw
    rw [hw] at h2
    simp only [] at h2
    split at h2
    · omega
    · next g1 =>
      split at h2
      · omega
      · next g2 =>
        simp only [Bool.or_eq_true, not_or, Bool.not_eq_true', Bool.not_eq_false, bne_iff_ne, ne_eq, Decidable.not_not] at g2
        have hk := h2.1
        unfold kindW at hk
        refine ⟨by rw [← hl]; exact g2.2, fun e => ?_, fun e => ?_, ?_⟩
        · rw [if_pos e] at hk
          split at hk
          · next g3 =>
            simp only [Bool.and_eq_true] at g3
            exact ⟨inB_iff.1 g3.1, inB_iff.1 g3.2⟩
          · omega
        · rw [if_neg (by omega), if_pos e] at hk
          split at hk
          · next g3 =>
            simp only [Bool.and_eq_true] at g3
            have hw2 := inB_iff.1 g3.1
            have hv := inB_iff.1 g3.2
            have := pow_le_10 (n := x.width.toNat) (by omega)
            exact ⟨hw2, hv.1, by omega⟩
          · omega
        · by_cases e1 : x.kind = 1
          · omega
          by_cases e2 : x.kind = 2
          · omega
          by_cases e3 : x.kind = 3
          · omega
          by_cases e4 : x.kind = 4 ∨ x.kind = 6
          · omega
          by_cases e5 : x.kind = 5
          · omega
          rw [if_neg e1, if_neg e2, if_neg e3, if_neg e4, if_neg e5] at hk
          omega
theorem part_size {ls : List Ln} (hg : laGoodF ls = true) (hs : okS ls) {k : Nat} {x : Ln} (h : ls[k]? = some x) {p : ByteArray} (hp : p ∈ x.parts) : p.size ≤ 1048576 := by
  have h0 := (good_part hg h hp).1
  unfold findF at h0
  cases hf : ls.findIdx? (findB p) with
  | none => rw [hf] at h0; simp at h0
  | some i =>
    rw [List.findIdx?_eq_some_iff_getElem] at hf
    obtain ⟨hi, hb, _⟩ := hf
    unfold findB at hb
    simp at hb
    have := (hs ls[i] (List.getElem_mem hi)).1
    rw [hb.2] at this
    exact this
/-- A line that has a text. -/
def TxtOk (x : Ln) : Prop := ((x.parts.length : Int) = laParts x.kind ∧ (x.kind = 1 → (0 ≤ x.party ∧ x.party ≤ 1) ∧ (1 ≤ x.width ∧ x.width ≤ 10)) ∧ (x.kind = 2 → (1 ≤ x.width ∧ x.width ≤ 10) ∧ (0 ≤ x.value ∧ x.value ≤ 1023)) ∧ (1 ≤ x.kind ∧ x.kind ≤ 6)) ∧ ∀ p ∈ x.parts, p.size ≤ 1048576
theorem good_txt {ls : List Ln} (hg : laGoodF ls = true) (hs : okS ls) : ∀ x ∈ ls, TxtOk x := fun x hx => by
  obtain ⟨k, hk, e⟩ := List.getElem_of_mem hx
  have h : ls[k]? = some x := by rw [List.getElem?_eq_getElem hk, e]
  exact ⟨line_good hg h, fun p hp => part_size hg hs h hp⟩
/-- The text of a line, but for its end. -/
def lineE (x : Ln) : ByteArray :=
  if x.kind = 1 then ByteArray.mk #[105, 110, 112, 117, 116, 32] ++ numT x.party ++ ByteArray.mk #[32] ++ x.name ++ ByteArray.mk #[32] ++ numT x.width
  else if x.kind = 2 then ByteArray.mk #[99, 111, 110, 115, 116, 32] ++ x.name ++ ByteArray.mk #[32] ++ numT x.width ++ ByteArray.mk #[32] ++ numT x.value
  else if x.kind = 3 then ByteArray.mk #[108, 101, 116, 32] ++ x.name ++ ByteArray.mk #[32] ++ x.parts.getD 0 ByteArray.empty ++ ByteArray.mk #[32] ++ x.op ++ ByteArray.mk #[32] ++ x.parts.getD 1 ByteArray.empty
  else if x.kind = 4 then ByteArray.mk #[110, 111, 116, 32] ++ x.name ++ ByteArray.mk #[32] ++ x.parts.getD 0 ByteArray.empty
  else if x.kind = 5 then ByteArray.mk #[112, 105, 99, 107, 32] ++ x.name ++ ByteArray.mk #[32] ++ x.parts.getD 0 ByteArray.empty ++ ByteArray.mk #[32] ++ x.parts.getD 1 ByteArray.empty ++ ByteArray.mk #[32] ++ x.parts.getD 2 ByteArray.empty
  else ByteArray.mk #[111, 117, 116, 32] ++ x.parts.getD 0 ByteArray.empty
def lineT (x : Ln) : ByteArray := lineE x ++ ByteArray.mk #[10]
def textB (ls : List Ln) : ByteArray := ls.foldl (fun a x => a ++ lineT x) (ByteArray.mk #[])
def textF (ls : List Ln) : ByteArray × Bool := if laGoodF ls = true then (textB ls, true) else (ByteArray.mk #[], false)
theorem textB_step {ls : List Ln} {k : Nat} {x : Ln} (h : ls[k]? = some x) : textB (ls.take (k + 1)) = textB (ls.take k) ++ lineT x := by
  unfold textB
  rw [List.take_add_one, h, List.foldl_append]; rfl
end Go.Proofs.YtdlddkgmjpmenaaGreatDoor
