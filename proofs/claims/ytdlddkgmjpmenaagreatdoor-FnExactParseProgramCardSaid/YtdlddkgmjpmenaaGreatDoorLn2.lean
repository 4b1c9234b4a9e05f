/-
  The language: names, operations, sums, inputs: small functions both ways.
-/
import Derived.Test.YtdlddkgmjpmenaaGreatDoorLn1
namespace Go.Proofs.YtdlddkgmjpmenaaGreatDoor
open Go.RowKit
set_option linter.unusedVariables false
set_option linter.unusedSimpArgs false

theorem letters_step {s : ByteArray} {k : Nat} (hk : k < s.size) (h : (s.data.toList.take k).all letterB = true) : (s.data.toList.take (k + 1)).all letterB = letterB s[k] := by
  have e : s.data.toList[k]? = some s[k] := by
    rw [List.getElem?_eq_getElem (by simpa using hk)]
    rfl
  rw [List.take_add_one, e, List.all_append, h, Bool.true_and]
  simp
theorem letters_stop {s : ByteArray} {k : Nat} (hk : k < s.size) (h : letterB s[k] = false) : nameB s = false := by
  have e : s.data.toList[k]? = some s[k] := by
    rw [List.getElem?_eq_getElem (by simpa using hk)]
    rfl
  have : s.data.toList.all letterB = false := by
    rw [List.all_eq_false]
    exact ⟨s[k], List.mem_of_getElem? e, by simp [h]⟩
  rw [nameB, this, Bool.false_and]
theorem laName_any (w : World) (s : ByteArray) (hs : s.size ≤ 1048576) : Calls Tryz.prog 105 #[.string s] w fun e w' => e = .returned (.bool (nameB s)) ∧ w = w' := by
  go_enter Tryz.func105, Tryz.ntmps105
  go_wp2
  go_loop [3] (fun i => ∃ k : Nat, k ≤ s.size ∧ i = .int .i64 k ∧ Hid ((s.data.toList.take k).all letterB = true)) (fun i => s.size - (intOf i).toNat)
  case atStart => exact ⟨0, Nat.zero_le _, rfl, by show _ = _; simp⟩
  case round =>
    obtain ⟨k, hk, rfl, hlow⟩ := hrel
    by_cases hlt : k < s.size
    · have hc : s[k].toNat < 256 := s[k].toNat_lt
      by_cases a1 : s[k].toNat < 97
      · have a1' : (s[k].toNat : Int) < 97 := by omega
        have HF := Lib.hid (letters_stop hlt (by unfold letterB; simp; omega))
        go_wp2
        go_ret
        exact ⟨ret_bool HF.out.symm, rfl⟩
      by_cases a2 : 122 < s[k].toNat
      · have a1' : ¬ (s[k].toNat : Int) < 97 := by omega
        have a2' : (122 : Int) < s[k].toNat := by omega
        have HF := Lib.hid (letters_stop hlt (by unfold letterB; simp; omega))
        go_wp2
        go_ret
        exact ⟨ret_bool HF.out.symm, rfl⟩
      · have a1' : ¬ (s[k].toNat : Int) < 97 := by omega
        have a2' : ¬ (122 : Int) < s[k].toNat := by omega
        have HF : Hid ((s.data.toList.take (k + 1)).all letterB = true) := by show _ = _; rw [letters_step hlt hlow.out]; unfold letterB; simp; omega
        go_wp2
        go_round
        case rel => exact ⟨k + 1, by omega, by go_num, HF⟩
        case measure => simp [intOf] <;> omega
    · obtain rfl : k = s.size := by omega
      have HF := hlow.out
      rw [List.take_of_length_le (by simp)] at HF
      have HG : Hid (inB (s.size : Int) 1 6 = nameB s) := by show _ = _; rw [nameB, HF, Bool.true_and]
      clear HF
      go_wp2_with (go_at_call 95; refine (l1In_any _ _ _ _).mono ?_; rintro e w' ⟨rfl, rfl⟩; rw [HG.out])
      go_ret
      exact ⟨rfl, rfl⟩
theorem isName_any (w : World) (s : ByteArray) (hs : s.size ≤ 1048576) : Calls Tryz.prog 104 #[.string s] w fun e w' => e = .returned (.bool (nameB s)) ∧ w = w' := by
  go_enter Tryz.func104, Tryz.ntmps104
  go_wp2
  go_loop [6] (fun i => ∃ k : Nat, k ≤ s.size ∧ i = .int .i64 k ∧ Hid ((s.data.toList.take k).all letterB = true)) (fun i => s.size - (intOf i).toNat)
  case atStart => exact ⟨0, Nat.zero_le _, rfl, by show _ = _; simp⟩
  case round =>
    obtain ⟨k, hk, rfl, hlow⟩ := hrel
    by_cases hlt : k < s.size
    · have hc : s[k].toNat < 256 := s[k].toNat_lt
      by_cases a1 : s[k].toNat < 97
      · have a1' : (s[k].toNat : Int) < 97 := by omega
        have HF := Lib.hid (letters_stop hlt (by unfold letterB; simp; omega))
        go_wp2
        go_ret
        exact ⟨ret_bool HF.out.symm, rfl⟩
      by_cases a2 : 122 < s[k].toNat
      · have a1' : ¬ (s[k].toNat : Int) < 97 := by omega
        have a2' : (122 : Int) < s[k].toNat := by omega
        have HF := Lib.hid (letters_stop hlt (by unfold letterB; simp; omega))
        go_wp2
        go_ret
        exact ⟨ret_bool HF.out.symm, rfl⟩
      · have a1' : ¬ (s[k].toNat : Int) < 97 := by omega
        have a2' : ¬ (122 : Int) < s[k].toNat := by omega
        have HF : Hid ((s.data.toList.take (k + 1)).all letterB = true) := by show _ = _; rw [letters_step hlt hlow.out]; unfold letterB; simp; omega
        go_wp2
        go_round
        case rel => exact ⟨k + 1, by omega, by go_num, HF⟩
        case measure => simp [intOf] <;> omega
    · obtain rfl : k = s.size := by omega
      have HF := hlow.out
      rw [List.take_of_length_le (by simp)] at HF
      have HG : Hid (inB (s.size : Int) 1 6 = nameB s) := by show _ = _; rw [nameB, HF, Bool.true_and]
      clear HF
      go_wp2_with (go_at_call 98; refine (within_any _ _ _ _).mono ?_; rintro e w' ⟨rfl, rfl⟩; rw [HG.out])
      go_ret
      exact ⟨rfl, rfl⟩
theorem isWidth_any (n : Int) (w : World) : Calls Tryz.prog 102 #[.int .i64 n] w fun e w' => e = .returned (.bool (inB n 1 10)) ∧ w = w' := by
  go_enter Tryz.func102, Tryz.ntmps102
  go_wp2_with (go_at_call 98; refine (within_any _ _ _ _).mono ?_; rintro e w' ⟨rfl, rfl⟩)
  go_ret
  exact ⟨rfl, rfl⟩
theorem isBit2_any (n : Int) (w : World) : Calls Tryz.prog 96 #[.int .i64 n] w fun e w' => e = .returned (.bool (inB n 0 1)) ∧ w = w' := by
  by_cases h0 : n = 0
  · subst h0
    go_enter Tryz.func96, Tryz.ntmps96
    go_wp2
    go_ret
    exact ⟨rfl, rfl⟩
  by_cases h1 : n = 1
  · subst h1
    go_enter Tryz.func96, Tryz.ntmps96
    go_wp2
    go_ret
    exact ⟨rfl, rfl⟩
  have b0 : (n == 0) = false := by simp [h0]
  have b1 : (n == 1) = false := by simp [h1]
  have HF : Hid (inB n 0 1 = false) := by show _ = _; rw [inB_no]; omega
  go_enter Tryz.func96, Tryz.ntmps96
  go_wp2
  go_ret
  exact ⟨ret_bool HF.out.symm, rfl⟩
theorem l1HasS_any (w : World) (B : Nat) (ao : Option Addr) (n c : Nat) (ss : List ByteArray) (s : ByteArray) (ha : Strs w B ao n ss) :
    Calls Tryz.prog 121 #[.slice ao n c, .string s] w fun e w' => e = .returned (.bool (ss.contains s)) ∧ w = w' := by
  have hn := ha.le
  have hl := Lib.hid ha.1
  go_enter Tryz.func121, Tryz.ntmps121
  go_wp2
  go_loop [9] (fun i => ∃ k : Nat, k ≤ n ∧ i = .int .i64 k ∧ Hid (s ∉ ss.take k)) (fun i => n - (intOf i).toNat)
  case atStart => exact ⟨0, Nat.zero_le _, rfl, by simp [Hid]⟩
  case round =>
    obtain ⟨k, hk, rfl, heq⟩ := hrel
    by_cases hlt : k < n
    · obtain ⟨b1, o1, x, rfl, hb1, hx, hc1⟩ := ha.at hlt
      have HX := Lib.hid hx
      clear hx
      by_cases hxv : x = s
      · have sb := seq_yes hxv
        have HM : Hid (ss.contains s = true) := by show _ = _; rw [← hxv]; simpa using List.mem_of_getElem? HX.out
        clear hxv
        go_wp2
        go_ret
        exact ⟨ret_bool (by have h := HM.out; simp at h; simp [h]), rfl⟩
      · have sb := seq_no hxv
        go_wp2
        go_round
        case rel => exact ⟨k + 1, by omega, by go_num, by
          intro hm
          rw [List.take_add_one, HX.out] at hm
          rcases List.mem_append.1 hm with hm | hm
          · exact heq.out hm
          · simp at hm; exact hxv hm.symm⟩
        case measure => simp [intOf] <;> omega
    · obtain rfl : k = n := by omega
      go_wp2
      go_ret
      exact ⟨ret_bool (by have h := heq.out; rw [List.take_of_length_le (by rw [hl.out]; exact Nat.le_refl _)] at h; symm; simpa using h), rfl⟩
theorem laSum_any (w : World) (B : Nat) (ao : Option Addr) (n c : Nat) (xs : List Int) (ha : Ints w B ao n xs) (hn : n ≤ 1000) (hx : okW xs) :
    Calls Tryz.prog 82 #[.slice ao n c] w fun e w' => e = .returned (.int .i64 (sumL' xs)) ∧ w = w' := by
  have hl := Lib.hid ha.1
  have HX := Lib.hid hx
  go_enter Tryz.func82, Tryz.ntmps82
  go_wp2
  go_loop [3, 8] (fun m i => ∃ k : Nat, k ≤ n ∧ i = .int .i64 k ∧ m = .int .i64 (sumL' (xs.take k)) ∧ 0 ≤ sumL' (xs.take k) ∧ sumL' (xs.take k) ≤ 10 * k) (fun _ i => n - (intOf i).toNat)
  case atStart => exact ⟨0, Nat.zero_le _, rfl, rfl, by simp [sumL'], by simp [sumL']⟩
  case round =>
    obtain ⟨k, hk, rfl, rfl, s0, s1⟩ := hrel
    by_cases hlt : k < n
    · obtain ⟨b1, o1, x, rfl, hb1, hx, hc1⟩ := ha.at hlt
      have hxx := HX.out k x hx
      have HS : Hid (sumL' (xs.take (k + 1)) = sumL' (xs.take k) + x) := by
        show _ = _
        rw [List.take_add_one, hx, sumL', List.foldl_append]; rfl
      obtain ⟨S, hS⟩ : ∃ S, S = sumL' (xs.take k) := ⟨_, rfl⟩
      rw [← hS] at s0 s1 HS ⊢
      clear hx hS
      go_wp2
      go_round
      case rel => exact ⟨k + 1, by omega, by go_num, by rw [HS.out], by rw [HS.out]; omega, by rw [HS.out]; omega⟩
      case measure => simp [intOf] <;> omega
    · obtain rfl : k = n := by omega
      have HT : xs.take k = xs := List.take_of_length_le (by rw [hl.out]; exact Nat.le_refl _)
      rw [HT]
      clear HT
      go_wp2
      go_ret
      exact ⟨rfl, rfl⟩
def opsObj : Obj := .cells #[.string ⟨#[43]⟩, .string ⟨#[45]⟩, .string ⟨#[42]⟩, .string ⟨#[60]⟩, .string ⟨#[61]⟩, .string ⟨#[38]⟩, .string ⟨#[124]⟩, .string ⟨#[94]⟩] 9
def RetSs (ss : List ByteArray) (w : World) (e : Ending) (w' : World) : Prop := ∃ ao n c, e = .returned (.slice ao n c) ∧ Strs w' w'.heap.size ao n ss ∧ Below w.heap.size w w'
theorem laOps_any (w : World) : Calls Tryz.prog 74 #[] w (RetSs opsL w) := by
  have hb0 : Below w.heap.size w (w.alloc opsObj) := (Below.refl _ _).alloc (Nat.le_refl _) _
  have hS : Strs (w.alloc opsObj) (w.heap.size + 1) (some ⟨w.heap.size, 0, none⟩) 8 opsL := by
    refine ⟨rfl, by decide, .inr ⟨_, _, rfl, Nat.lt_succ_self _, fun j u hu => ?_⟩⟩
    rw [Nat.zero_add, cell_of_row _ w.heap.size j _ _ (0, 0) (heap_alloc_new w opsObj)]
    simpa [opsL, opB] using hu
  have hz : (w.alloc opsObj).heap.size = w.heap.size + 1 := by simp
  rw [← hz] at hS
  unfold opsObj at hS hb0
  go_enter Tryz.func74, Tryz.ntmps74
  go_wp2
  go_ret
  exact ⟨_, _, _, rfl, hS, hb0⟩
theorem laTwo_any (w : World) (op : ByteArray) (a b : Int) (ha : 0 ≤ a ∧ a ≤ 10) : Calls Tryz.prog 106 #[.string op, .int .i64 a, .int .i64 b] w (RetN (laTwo op a b) w) := by
  by_cases hab : a = b
  rotate_left
  · have bb : (a != b) = true := by simp [hab]
    have HF : Hid (laTwo op a b = 0) := by show _ = _; unfold laTwo; rw [bb]; simp
    go_enter Tryz.func106, Tryz.ntmps106
    go_wp2_with fail
    go_ret
    exact ⟨ret_int HF.out.symm, Below.refl _ _⟩
  subst hab
  cases hop : opsL.contains op
  · have HF : Hid (laTwo op a a = 0) := by show _ = _; unfold laTwo; rw [hop]; simp
    have HO := Lib.hid hop
    clear hop
    go_enter Tryz.func106, Tryz.ntmps106
    go_wp2_with (first | (go_at_call 74; refine (laOps_any _).mono ?_; rintro e w1 ⟨a1, n1, c1, rfl, hs1, hb1⟩) | (go_at_call 121; refine (l1HasS_any _ _ _ _ _ _ _ hs1).mono ?_; rintro e w' ⟨rfl, rfl⟩; rw [HO.out]))
    go_ret
    exact ⟨ret_int HF.out.symm, hb1⟩
  have HO := Lib.hid hop
  have HL : Hid (laTwo op a a = if (op == opB 42 && decide (2 * a > 10)) = true then 0 else if (op == opB 42) = true then 2 * a else if (op == opB 60 || op == opB 61) = true then 1 else a) := by
    show _ = _; unfold laTwo; rw [hop]; simp
  clear hop
  by_cases hm : op = opB 42
  · subst hm
    have HL2 : Hid (laTwo (opB 42) a a = if 2 * a > 10 then 0 else 2 * a) := by show _ = _; rw [HL.out]; simp
    unfold opB at HO HL2 ⊢
    by_cases h10 : 2 * a > 10
    · go_enter Tryz.func106, Tryz.ntmps106
      go_wp2_with (first | (go_at_call 74; refine (laOps_any _).mono ?_; rintro e w1 ⟨a1, n1, c1, rfl, hs1, hb1⟩) | (go_at_call 121; refine (l1HasS_any _ _ _ _ _ _ _ hs1).mono ?_; rintro e w' ⟨rfl, rfl⟩; rw [HO.out]))
      go_ret
      exact ⟨ret_int (by rw [HL2.out, if_pos h10]), hb1⟩
    · have h10' : ¬ (10 : Int) < 2 * a := by omega
      go_enter Tryz.func106, Tryz.ntmps106
      go_wp2_with (first | (go_at_call 74; refine (laOps_any _).mono ?_; rintro e w1 ⟨a1, n1, c1, rfl, hs1, hb1⟩) | (go_at_call 121; refine (l1HasS_any _ _ _ _ _ _ _ hs1).mono ?_; rintro e w' ⟨rfl, rfl⟩; rw [HO.out]))
      go_ret
      exact ⟨ret_int (by rw [HL2.out, if_neg (by omega)]), hb1⟩
  have nm := seq_no hm
  have nmb := bytes_beq_no.2 hm
  by_cases hl : op = opB 60
  · have HL2 : Hid (laTwo op a a = 1) := by show _ = _; rw [HL.out, nmb, hl]; simp
    subst hl
    clear nm nmb hm
    unfold opB at HO HL2 ⊢
    go_enter Tryz.func106, Tryz.ntmps106
    go_wp2_with (first | (go_at_call 74; refine (laOps_any _).mono ?_; rintro e w1 ⟨a1, n1, c1, rfl, hs1, hb1⟩) | (go_at_call 121; refine (l1HasS_any _ _ _ _ _ _ _ hs1).mono ?_; rintro e w' ⟨rfl, rfl⟩; rw [HO.out]))
    go_ret
    exact ⟨ret_int HL2.out.symm, hb1⟩
  by_cases he : op = opB 61
  · have HL2 : Hid (laTwo op a a = 1) := by show _ = _; rw [HL.out, nmb, he]; simp
    subst he
    clear nm nmb hm hl
    unfold opB at HO HL2 ⊢
    go_enter Tryz.func106, Tryz.ntmps106
    go_wp2_with (first | (go_at_call 74; refine (laOps_any _).mono ?_; rintro e w1 ⟨a1, n1, c1, rfl, hs1, hb1⟩) | (go_at_call 121; refine (l1HasS_any _ _ _ _ _ _ _ hs1).mono ?_; rintro e w' ⟨rfl, rfl⟩; rw [HO.out]))
    go_ret
    exact ⟨ret_int HL2.out.symm, hb1⟩
  have nl := seq_no hl
  have ne := seq_no he
  have HL2 : Hid (laTwo op a a = a) := by show _ = _; rw [HL.out, nmb, bytes_beq_no.2 hl, bytes_beq_no.2 he]; simp
  unfold opB at nm nl ne
  have nm' : (op.toList == [42]) = false := by rw [← nm]; rw [ByteArray.toList_eq ⟨#[42]⟩]
  have nl' : (op.toList == [60]) = false := by rw [← nl]; rw [ByteArray.toList_eq ⟨#[60]⟩]
  have ne' : (op.toList == [61]) = false := by rw [← ne]; rw [ByteArray.toList_eq ⟨#[61]⟩]
  clear hm hl he nmb
  go_enter Tryz.func106, Tryz.ntmps106
  go_wp2_with (first | (go_at_call 74; refine (laOps_any _).mono ?_; rintro e w1 ⟨a1, n1, c1, rfl, hs1, hb1⟩) | (go_at_call 121; refine (l1HasS_any _ _ _ _ _ _ _ hs1).mono ?_; rintro e w' ⟨rfl, rfl⟩; rw [HO.out]))
  go_ret
  exact ⟨ret_int HL2.out.symm, hb1⟩
end Go.Proofs.YtdlddkgmjpmenaaGreatDoor
