/-
  The language: the program's width of the result of an operation. (strings.Index and what it calls, at a text of one byte: lines of the shelf's worked contracts, turned to this program.)
-/
import Derived.Test.YtdlddkgmjpmenaaGreatDoorLn2
import Derived.Lib.Bytealg
namespace Go.Proofs.YtdlddkgmjpmenaaGreatDoor
open Go.RowKit
set_option linter.unusedVariables false
set_option linter.unusedSimpArgs false

set_option maxHeartbeats 1000000 in
set_option maxRecDepth 100000 in
theorem indexByte_any (s : ByteArray) (c : Int) (w : World) :
    Calls Tryz.prog 126 #[.string s, .int .u8 c] w fun e w' => e = .returned (.int .i64 (Lib.indexByte s.data.toList c.toNat.toUInt8)) ∧ w = w' := by
  go_enter Tryz.func126, Tryz.ntmps126
  go_wp2
  rw [run_callFunc_extern Tryz.func139 (by kernel_rfl) (by kernel_rfl) (by kernel_rfl) (e := Extern.BytealgIndexByte.indexByte) (by kernel_rfl), Lib.run_indexByteString]
  simp only [Result.andThen]
  rw [Oper.upon_value]
  go_wp2
  go_ret
  exact ⟨rfl, rfl⟩
set_option maxHeartbeats 2000000 in
set_option maxRecDepth 100000 in
theorem index1_any (s : ByteArray) (c : UInt8) (w : World) :
    Calls Tryz.prog 114 #[.string s, .string ⟨#[c]⟩] w fun e w' => e = .returned (.int .i64 (Lib.indexByte s.data.toList c)) ∧ w = w' := by
  go_enter Tryz.func114, Tryz.ntmps114
  go_wp2_with (go_at_call 126; refine (indexByte_any _ _ _).mono ?_; rintro e w' ⟨rfl, rfl⟩)
  · have h : ([c] == s.toList) = true := by assumption
    go_ret
    refine ⟨?_, rfl⟩
    have e : s.data.toList = [c] := by rw [← Lib.toList_data]; exact (beq_iff_eq.1 h).symm
    rw [e]
    simp [Lib.indexByte]
  · go_ret
    exact ⟨rfl, rfl⟩
set_option maxHeartbeats 1000000 in
theorem sindex1_any (s : ByteArray) (c : UInt8) (w : World) :
    Calls Tryz.prog 89 #[.string s, .string ⟨#[c]⟩] w fun e w' => e = .returned (.int .i64 (Lib.indexByte s.data.toList c)) ∧ w = w' := by
  go_enter Tryz.func89, Tryz.ntmps89
  go_wp2_with (go_at_call 114; refine (index1_any _ _ _).mono ?_; rintro e w' ⟨rfl, rfl⟩)
  go_ret
  exact ⟨rfl, rfl⟩
set_option maxHeartbeats 1000000 in
theorem contains1_any (s : ByteArray) (c : UInt8) (w : World) :
    Calls Tryz.prog 120 #[.string s, .string ⟨#[c]⟩] w fun e w' => e = .returned (.bool (decide (0 ≤ Lib.indexByte s.data.toList c))) ∧ w = w' := by
  go_enter Tryz.func120, Tryz.ntmps120
  go_wp2_with (go_at_call 89; refine (sindex1_any _ _ _).mono ?_; rintro e w' ⟨rfl, rfl⟩)
  go_ret
  exact ⟨rfl, rfl⟩
def opsBytes : List UInt8 := [43, 45, 42, 60, 61, 38, 124, 94]
theorem indexByte_mem (c : UInt8) : ∀ l : List UInt8, decide (0 ≤ Lib.indexByte l c) = l.contains c
  | [] => rfl
  | b :: l => by
    have ih := indexByte_mem c l
    have hg := Lib.indexByte_ge l c
    rw [Lib.indexByte, List.contains_cons]
    by_cases h : b = c
    · subst h; simp
    · have h1 : (b == c) = false := by simpa using h
      have h2 : (c == b) = false := by simpa using Ne.symm h
      rw [h1, h2, ← ih]
      simp only [Bool.false_eq_true, if_false, Bool.false_or]
      by_cases h3 : Lib.indexByte l c = -1
      · simp [h3]
      · have h4 : (Lib.indexByte l c == -1) = false := by simpa using h3
        rw [h4]
        simp only [Bool.false_eq_true, if_false]
        congr 1
        apply propext
        constructor <;> intro _ <;> omega
theorem opB_beq (a b : UInt8) : (opB a == opB b) = (a == b) := by
  by_cases h : a = b
  · subst h; simp
  · have h1 : opB a ≠ opB b := by
      intro e
      apply h
      have := congrArg (fun x : ByteArray => x.data.toList) e
      simpa [opB] using this
    rw [bytes_beq_no.2 h1]; symm; simpa using h
theorem ops_contains (c : UInt8) : opsL.contains (opB c) = decide (0 ≤ Lib.indexByte opsBytes c) := by
  rw [indexByte_mem]
  simp only [opsL, opsBytes, List.contains_cons, List.contains_nil, opB_beq]
def opsText : ByteArray := ⟨#[43, 45, 42, 60, 61, 38, 124, 94]⟩
theorem containsOps_any (c : UInt8) (w : World) :
    Calls Tryz.prog 120 #[.string ⟨#[43, 45, 42, 60, 61, 38, 124, 94]⟩, .string ⟨#[c]⟩] w fun e w' => e = .returned (.bool (decide (0 ≤ Lib.indexByte opsBytes c))) ∧ w = w' :=
  contains1_any _ _ _
theorem one_byte {s : ByteArray} (h : s.size = 1) : ∃ c, s = opB c := by
  obtain ⟨⟨l⟩⟩ := s
  match l, h with
  | [c], _ => exact ⟨c, rfl⟩
  | [], h => simp [ByteArray.size] at h
  | _ :: _ :: _, h => simp [ByteArray.size] at h
theorem ops_size {op : ByteArray} (h : op.size ≠ 1) : opsL.contains op = false := by
  cases hc : opsL.contains op
  · rfl
  · exfalso
    simp only [opsL, List.contains_cons, List.contains_nil, Bool.or_eq_true, bytes_beq, Bool.or_false] at hc
    apply h
    rcases hc with rfl | rfl | rfl | rfl | rfl | rfl | rfl | rfl <;> rfl
theorem ops_cases {op : ByteArray} (h : opsL.contains op = true) : op = opB 42 ∨ (op = opB 60 ∨ op = opB 61) ∨ (op = opB 43 ∨ op = opB 45 ∨ op = opB 38 ∨ op = opB 124 ∨ op = opB 94) := by
  simp only [opsL, List.contains_cons, List.contains_nil, Bool.or_eq_true, bytes_beq, Bool.or_false] at h
  rcases h with rfl | rfl | rfl | rfl | rfl | rfl | rfl | rfl <;> simp
set_option maxRecDepth 100000 in
set_option maxHeartbeats 4000000 in
theorem resultWidth_any (w : World) (op : ByteArray) (a : Int) (ha : 0 ≤ a ∧ a ≤ 10) :
    Calls Tryz.prog 103 #[.string op, .int .i64 a] w fun e w' => e = .returned (.int .i64 (resW op a)) ∧ w = w' := by
  by_cases hs : op.size = 1
  rotate_left
  · have hs' : ((op.size : Int) != 1) = true := by simp; omega
    have HF : Hid (resW op a = 0) := by show _ = _; unfold resW; rw [ops_size hs]; simp
    go_enter Tryz.func103, Tryz.ntmps103
    go_wp2_with fail
    go_ret
    exact ⟨ret_int HF.out.symm, rfl⟩
  obtain ⟨c, rfl⟩ := one_byte hs
  cases hop : opsL.contains (opB c)
  · have HF : Hid (resW (opB c) a = 0) := by show _ = _; unfold resW; rw [hop]; simp
    have HI : Hid (decide (0 ≤ Lib.indexByte opsBytes c) = false) := by show _ = _; rw [← ops_contains, hop]
    clear hop
    unfold opB at hs HF ⊢
    go_enter Tryz.func103, Tryz.ntmps103
    go_wp2_with (go_at_call 120; refine (containsOps_any _ _).mono ?_; rintro e w' ⟨rfl, rfl⟩; rw [HI.out])
    go_ret
    exact ⟨ret_int HF.out.symm, rfl⟩
  rcases ops_cases hop with h | h | h
  · clear hs
    rw [h] at hop ⊢
    have HI : Hid (decide (0 ≤ Lib.indexByte opsBytes 42) = true) := rfl
    clear hop h
    by_cases h10 : 2 * a > 10
    · have HF : Hid (resW (opB 42) a = 0) := by show _ = _; unfold resW; simp [opsL, h10]
      unfold opB at HF ⊢
      go_enter Tryz.func103, Tryz.ntmps103
      go_wp2_with (go_at_call 120; refine (containsOps_any _ _).mono ?_; rintro e w' ⟨rfl, rfl⟩; rw [HI.out])
      go_ret
      exact ⟨ret_int HF.out.symm, rfl⟩
    · have h10' : ¬ (10 : Int) < 2 * a := by omega
      have HF : Hid (resW (opB 42) a = 2 * a) := by show _ = _; unfold resW; simp [opsL, h10']
      unfold opB at HF ⊢
      go_enter Tryz.func103, Tryz.ntmps103
      go_wp2_with (go_at_call 120; refine (containsOps_any _ _).mono ?_; rintro e w' ⟨rfl, rfl⟩; rw [HI.out])
      go_ret
      exact ⟨ret_int HF.out.symm, rfl⟩
  · clear hs
    rcases h with h | h
    · rw [h] at hop ⊢
      have HI : Hid (decide (0 ≤ Lib.indexByte opsBytes 60) = true) := rfl
      clear hop h
      have HF : Hid (resW (opB 60) a = 1) := by show _ = _; unfold resW; simp [opsL, opB_beq]
      unfold opB at HF ⊢
      go_enter Tryz.func103, Tryz.ntmps103
      go_wp2_with (go_at_call 120; refine (containsOps_any _ _).mono ?_; rintro e w' ⟨rfl, rfl⟩; rw [HI.out])
      go_ret
      exact ⟨ret_int HF.out.symm, rfl⟩
    · rw [h] at hop ⊢
      have HI : Hid (decide (0 ≤ Lib.indexByte opsBytes 61) = true) := rfl
      clear hop h
      have HF : Hid (resW (opB 61) a = 1) := by show _ = _; unfold resW; simp [opsL, opB_beq]
      unfold opB at HF ⊢
      go_enter Tryz.func103, Tryz.ntmps103
      go_wp2_with (go_at_call 120; refine (containsOps_any _ _).mono ?_; rintro e w' ⟨rfl, rfl⟩; rw [HI.out])
      go_ret
      exact ⟨ret_int HF.out.symm, rfl⟩
  · clear hs
    rcases h with h | h | h | h | h
    · rw [h] at hop ⊢
      have HI : Hid (decide (0 ≤ Lib.indexByte opsBytes 43) = true) := rfl
      clear hop h
      have HF : Hid (resW (opB 43) a = a) := by show _ = _; unfold resW; simp [opsL, opB_beq]
      unfold opB at HF ⊢
      go_enter Tryz.func103, Tryz.ntmps103
      go_wp2_with (go_at_call 120; refine (containsOps_any _ _).mono ?_; rintro e w' ⟨rfl, rfl⟩; rw [HI.out])
      go_ret
      exact ⟨ret_int HF.out.symm, rfl⟩
    · rw [h] at hop ⊢
      have HI : Hid (decide (0 ≤ Lib.indexByte opsBytes 45) = true) := rfl
      clear hop h
      have HF : Hid (resW (opB 45) a = a) := by show _ = _; unfold resW; simp [opsL, opB_beq]
      unfold opB at HF ⊢
      go_enter Tryz.func103, Tryz.ntmps103
      go_wp2_with (go_at_call 120; refine (containsOps_any _ _).mono ?_; rintro e w' ⟨rfl, rfl⟩; rw [HI.out])
      go_ret
      exact ⟨ret_int HF.out.symm, rfl⟩
    · rw [h] at hop ⊢
      have HI : Hid (decide (0 ≤ Lib.indexByte opsBytes 38) = true) := rfl
      clear hop h
      have HF : Hid (resW (opB 38) a = a) := by show _ = _; unfold resW; simp [opsL, opB_beq]
      unfold opB at HF ⊢
      go_enter Tryz.func103, Tryz.ntmps103
      go_wp2_with (go_at_call 120; refine (containsOps_any _ _).mono ?_; rintro e w' ⟨rfl, rfl⟩; rw [HI.out])
      go_ret
      exact ⟨ret_int HF.out.symm, rfl⟩
    · rw [h] at hop ⊢
      have HI : Hid (decide (0 ≤ Lib.indexByte opsBytes 124) = true) := rfl
      clear hop h
      have HF : Hid (resW (opB 124) a = a) := by show _ = _; unfold resW; simp [opsL, opB_beq]
      unfold opB at HF ⊢
      go_enter Tryz.func103, Tryz.ntmps103
      go_wp2_with (go_at_call 120; refine (containsOps_any _ _).mono ?_; rintro e w' ⟨rfl, rfl⟩; rw [HI.out])
      go_ret
      exact ⟨ret_int HF.out.symm, rfl⟩
    · rw [h] at hop ⊢
      have HI : Hid (decide (0 ≤ Lib.indexByte opsBytes 94) = true) := rfl
      clear hop h
      have HF : Hid (resW (opB 94) a = a) := by show _ = _; unfold resW; simp [opsL, opB_beq]
      unfold opB at HF ⊢
      go_enter Tryz.func103, Tryz.ntmps103
      go_wp2_with (go_at_call 120; refine (containsOps_any _ _).mono ?_; rintro e w' ⟨rfl, rfl⟩; rw [HI.out])
      go_ret
      exact ⟨ret_int HF.out.symm, rfl⟩
end Go.Proofs.YtdlddkgmjpmenaaGreatDoor
