/-
  Programs read back: the reference's cutting and reading, walked.
-/
import Derived.Test.YtdlddkgmjpmenaaGreatDoorGPq
import Derived.Test.YtdlddkgmjpmenaaGreatDoorGLs
import Derived.Lib.Split
import Derived.Deep.DeepCutAuto
namespace Go.Proofs.YtdlddkgmjpmenaaGreatDoor
open Go.RowKit
set_option linter.unusedVariables false
set_option linter.unusedSimpArgs false

def bs (l : List UInt8) : ByteArray := ⟨l.toArray⟩
theorem strs_oneCell1 (ss : List ByteArray) : ∀ u ∈ ss.map Value.string, u.oneCell' = true := by
  intro u hu
  rw [List.mem_map] at hu
  obtain ⟨x, _, rfl⟩ := hu
  simp [Value.oneCell']
theorem wpList_append_s1 {w : World} {ops : Array Oper} {rest : List Oper} {o : Oper} {a : Act} {Q : Exit → Act → World → Prop} (hgd : o.guard = none) (s x : Operand)
    (ho : o.op = .call { callee := .builtin .append, args := #[s, x], argTypes := #[45, 45] })
    (B : Nat) (ao : Option Addr) (n cap : Nat) (xs : List ByteArray) (u : ByteArray) (hs : a.eval s = .slice ao n cap) (hx : a.eval x = .slice (some ⟨w.heap.size, 0, none⟩) 1 1)
    (hown : OwnSt B w ao n cap xs) (hn : n < 999999990) (hB : B ≤ w.heap.size)
    (h : ∀ ao' cap' w', OwnSt B w' ao' (n + 1) cap' (xs ++ [u]) → w.grownBy w' (rowOf ao cap) → wpList Tryz.prog ops Q rest (a.put o.dst (.slice ao' (n + 1) cap')) w') :
    wpList Tryz.prog ops Q (o :: rest) a (w.alloc (.cells #[.string u] 9)) :=
  wpList_append_new hgd s x 45 9 (.string ⟨#[]⟩) 1 16 Tryz.underlying45 str_info rfl (by decide) (by decide) ho B ao n cap (xs.map Value.string) 1 1 [.string u] hs hx rfl (by simp [Value.oneCell']) hown.2.2 (by omega) hB
    fun ao' cap' w' h1 h2 => h ao' cap' w' ⟨by simp [hown.1], by omega, by simpa using h1⟩ h2
theorem u8_ne {x c : UInt8} (h : x ≠ c) : ((x.toNat : Int) == (c.toNat : Int)) = false := by
  cases e : ((x.toNat : Int) == (c.toNat : Int)) with
  | false => rfl
  | true =>
    have h2 : (x.toNat : Int) = (c.toNat : Int) := by simpa using e
    exact absurd (UInt8.toNat_inj.1 (by omega)) h
theorem drop_cons {l : List UInt8} {k : Nat} {x : UInt8} (hk : l[k]? = some x) : l.drop k = x :: l.drop (k + 1) := by
  obtain ⟨h, e⟩ := List.getElem?_eq_some_iff.1 hk
  rw [List.drop_eq_getElem_cons h, e]
theorem drop_split {l : List UInt8} {f k : Nat} (hfk : f ≤ k) : l.drop f = (l.drop f).take (k - f) ++ l.drop k := by
  have h := (List.take_append_drop (k - f) (l.drop f)).symm
  rw [List.drop_drop, show f + (k - f) = k by omega] at h
  exact h
theorem split_hit {c : UInt8} {l : List UInt8} {f k : Nat} (hfk : f ≤ k) (hk : l[k]? = some c) (hfree : c ∉ (l.drop f).take (k - f)) : splitL c (l.drop f) = (l.drop f).take (k - f) :: splitL c (l.drop (k + 1)) := by
  have h := drop_split (l := l) hfk
  rw [drop_cons hk] at h
  have e : splitL c (l.drop f) = splitL c ((l.drop f).take (k - f) ++ c :: l.drop (k + 1)) := congrArg _ h
  rw [e, splitL_hit _ hfree]
theorem free_more {c : UInt8} {l : List UInt8} {f k : Nat} (hfk : f ≤ k) {x : UInt8} (hk : l[k]? = some x) (hx : x ≠ c) (hfree : c ∉ (l.drop f).take (k - f)) : c ∉ (l.drop f).take (k + 1 - f) := by
  have e : (l.drop f)[k - f]? = some x := by rw [List.getElem?_drop, show f + (k - f) = k by omega]; exact hk
  rw [show k + 1 - f = k - f + 1 by omega, List.take_add_one, e, List.mem_append]
  rintro (h | h)
  · exact hfree h
  · simp at h; exact hx h.symm
theorem split_end {c : UInt8} {l : List UInt8} {f : Nat} (hfree : c ∉ (l.drop f).take (l.length - f)) : splitL c (l.drop f) = [l.drop f] := by
  rw [List.take_of_length_le (by simp)] at hfree
  exact splitL_free hfree
theorem bs_extract (s : ByteArray) (a b : Nat) : s.extract a b = bs ((s.data.toList.drop a).take (b - a)) := by
  apply ByteArray.ext
  apply Array.ext'
  simp [bs, Lib.extract_data]
theorem byte_at {s : ByteArray} {k : Nat} (h : k < s.size) : s.data.toList[k]? = some s[k] := by
  rw [List.getElem?_eq_getElem (by simpa using h)]
  rfl
set_option maxRecDepth 20000 in
set_option maxHeartbeats 4000000 in
theorem l1Split_any (w : World) (s : ByteArray) (c : UInt8) (hs : s.size ≤ 1048576) :
    Calls Tryz.prog 56 #[.string s, .int .u8 c.toNat] w fun e w' => ∃ ao n cap, e = .returned (.slice ao n cap) ∧ OwnSt w.heap.size w' ao n cap ((splitL c s.data.toList).map bs) ∧ Below w.heap.size w w' := by
  go_enter Tryz.func56, Tryz.ntmps56
  go_wp2_with fail
  go_loopw [5, 6, 7] (fun s5 s6 s7 wr => ∃ (k f : Nat) (ao : Option Addr) (n cap : Nat) (out : List ByteArray), s5 = .slice ao n cap ∧ s6 = .int .i64 f ∧ s7 = .int .i64 k ∧ f ≤ k ∧ k ≤ s.size ∧ n ≤ k ∧ OwnSt w.heap.size wr ao n cap out ∧ Hid (c ∉ (s.data.toList.drop f).take (k - f)) ∧ Hid ((splitL c s.data.toList).map bs = out ++ (splitL c (s.data.toList.drop f)).map bs) ∧ Below w.heap.size w wr) (fun _ _ s7 _ => s.size - (intOf s7).toNat)
  case atStart => exact ⟨0, 0, _, 0, _, [], rfl, rfl, rfl, Nat.le_refl _, Nat.zero_le _, Nat.le_refl _, OwnSt.nil _ _ _, by show _ ∉ _; simp, by show _ = _; simp, Below.refl _ _⟩
  case round =>
    obtain ⟨k, f, ao, n, cap, out, rfl, rfl, rfl, hfk, hks, hnk, ho, hfree, hout, hbel⟩ := hrel
    by_cases hlt : k < s.size
    · have hk := byte_at hlt
      obtain ⟨x, hx⟩ : ∃ x, x = s[k] := ⟨_, rfl⟩
      rw [← hx] at hk
      have HX := Lib.hid hx
      by_cases he : x = c
      · subst he
        have hc : ((s[k].toNat : Int) == (x.toNat : Int)) = true := by rw [← hx]; simp
        have hout2 : Hid ((splitL x s.data.toList).map bs = (out ++ [s.extract f k]) ++ (splitL x (s.data.toList.drop (k + 1))).map bs) := by
          show _ = _
          rw [hout.out, split_hit hfk hk hfree.out, bs_extract]
          simp
        clear hx hk
        go_wp2_with (at_builtin; refine wpList_append_s1 rfl _ _ rfl w.heap.size _ _ _ _ _ rfl (by first | rfl | (simp; rfl)) ho (by omega) hbel.size ?_; intro ao' cap' w9 hown9 hg9)
        have hb9 := hbel.grown hg9 hbel.size (fun p hp => (ho.rowLt p hp).1)
        have hfree2 : Hid (x ∉ (s.data.toList.drop (k + 1)).take (k + 1 - (k + 1))) := by show _ ∉ _; simp
        go_roundw
        case rel => exact ⟨k + 1, k + 1, _, _, _, _, rfl, by go_num, by go_num, Nat.le_refl _, by omega, by omega, hown9, hfree2, hout2, hb9⟩
        case measure => simp [intOf] <;> omega
      · have hc : ((s[k].toNat : Int) == (c.toNat : Int)) = false := by rw [← hx]; exact u8_ne he
        have hfree2 : Hid (c ∉ (s.data.toList.drop f).take (k + 1 - f)) := free_more hfk hk he hfree.out
        clear hx hk
        go_wp2_with fail
        go_roundw
        case rel => exact ⟨k + 1, f, _, _, _, _, rfl, rfl, by go_num, by omega, by omega, by omega, ho, hfree2, hout, hbel⟩
        case measure => simp [intOf] <;> omega
    · obtain rfl : k = s.size := by omega
      have hlen : s.data.toList.length = s.size := by simp
      have hout2 : Hid (out ++ [s.extract f s.size] = (splitL c s.data.toList).map bs) := by
        show _ = _
        rw [hout.out, split_end (by rw [hlen]; exact hfree.out), bs_extract, List.take_of_length_le (by simp)]
        simp
      have HOUT2 := hout2
      go_wp2_with (at_builtin; refine wpList_append_s1 rfl _ _ rfl w.heap.size _ _ _ _ _ rfl (by first | rfl | (simp; rfl)) ho (by omega) hbel.size ?_; intro ao' cap' w9 hown9 hg9)
      go_ret
      exact ⟨_, _, _, rfl, by rw [← HOUT2.out]; exact hown9, hbel.grown hg9 hbel.size (fun p hp => (ho.rowLt p hp).1)⟩
theorem ret_int2 {a b : Int} (h : a = b) : Ending.returned (.int .i64 a) = .returned (.int .i64 b) := by rw [h]
theorem read_no {s : ByteArray} (h : s.size = 0 ∨ 6 < s.size) : readF s = -1 := by
  unfold readF
  rw [if_pos (by rcases h with h | h; exact .inl h; exact .inr (.inl h))]
set_option maxRecDepth 20000 in
set_option maxHeartbeats 4000000 in
theorem l1Read_any (w : World) (s : ByteArray) : Calls Tryz.prog 86 #[.string s] w fun e w' => e = .returned (.int .i64 (readF s)) ∧ w = w' := by
  by_cases hin : 1 ≤ s.size ∧ s.size ≤ 6
  rotate_left
  · have HR := Lib.hid (read_no (s := s) (by omega))
    have hd : inB (s.size : Int) 1 6 = false := by
      cases e : inB (s.size : Int) 1 6 with
      | false => rfl
      | true => have := inB_iff.1 e; omega
    go_enter Tryz.func86, Tryz.ntmps86
    go_wp2_with fail
    refine (l1In_any _ _ _ _).mono ?_
    rw [hd]
    rintro e w' ⟨rfl, rfl⟩
    go_wp2_with fail
    go_ret
    exact ⟨ret_int2 HR.out.symm, rfl⟩
  have hd : inB (s.size : Int) 1 6 = true := inB_iff.2 (by omega)
  have h0 : 0 < s.size := by omega
  have hk0 := byte_at h0
  obtain ⟨x0, hx0⟩ : ∃ x, x = s[0] := ⟨_, rfl⟩
  rw [← hx0] at hk0
  have hh : s.data.toList.head? = some x0 := by rw [List.head?_eq_getElem?]; exact hk0
  by_cases hz : x0 = 48 ∧ 1 < s.size
  · have HR : Hid (readF s = -1) := by
      show _ = _
      unfold readF
      rw [if_pos (.inr (.inr ⟨by rw [hh, hz.1], hz.2⟩))]
    have hc : ((s[0].toNat : Int) == 48) = true := by rw [← hx0, hz.1]; rfl
    have hg : (1 : Int) < s.size := by omega
    clear hx0 hk0 hh
    go_enter Tryz.func86, Tryz.ntmps86
    go_wp2_with fail
    refine (l1In_any _ _ _ _).mono ?_
    rw [hd]
    rintro e w' ⟨rfl, rfl⟩
    go_wp2_with fail
    go_ret
    exact ⟨ret_int2 HR.out.symm, rfl⟩
  have HR : Hid (readF s = digitsF s.data.toList 0) := by
    show _ = _
    unfold readF
    rw [if_neg]
    rintro (h | h | ⟨h, h2⟩)
    · omega
    · omega
    · rw [hh] at h
      exact hz ⟨by simpa using h, h2⟩
  have HX0 := Lib.hid hx0
  clear hx0 hk0
  go_enter Tryz.func86, Tryz.ntmps86
  go_upto_region 1 with fail
  go_cut [18] (fun s18 wx => s18 = .bool false ∧ wx = w)
  case first =>
    by_cases h48 : x0 = 48
    · have hc : ((s[0].toNat : Int) == 48) = true := by rw [← HX0.out, h48]; rfl
      have hg : ¬ (1 : Int) < s.size := fun h => hz ⟨h48, by omega⟩
      clear hz
      go_wp2_with fail
      refine (l1In_any _ _ _ _).mono ?_
      rw [hd]
      rintro e w' ⟨rfl, rfl⟩
      go_wp2_with fail
      go_meet
      exact ⟨by rw [decide_eq_false (by omega)], rfl⟩
    · have hc : ((s[0].toNat : Int) == 48) = false := by rw [← HX0.out]; exact u8_ne (c := 48) h48
      clear hz
      go_wp2_with fail
      refine (l1In_any _ _ _ _).mono ?_
      rw [hd]
      rintro e w' ⟨rfl, rfl⟩
      go_wp2_with fail
      go_meet
      exact ⟨rfl, rfl⟩
  case rest =>
    obtain ⟨rfl, rfl⟩ := hcut
    clear hz hd hh
    go_wp2_with fail
    go_loopw [3, 4] (fun s3 s4 wr => ∃ (k : Nat) (v : Int), s3 = .int .i64 v ∧ s4 = .int .i64 k ∧ k ≤ s.size ∧ 0 ≤ v ∧ Hid (v < 10 ^ k) ∧ Hid (digitsF s.data.toList 0 = digitsF (s.data.toList.drop k) v) ∧ wr = wc) (fun _ s4 _ => s.size - (intOf s4).toNat)
    case atStart => exact ⟨0, 0, rfl, rfl, Nat.zero_le _, by omega, (by decide : (0 : Int) < 10 ^ 0), by show _ = _; simp, rfl⟩
    case round =>
      obtain ⟨k, v, rfl, rfl, hk, hv0, hv1, hdg, rfl⟩ := hrel
      by_cases hlt : k < s.size
      · have hbk := byte_at hlt
        obtain ⟨x, hx⟩ : ∃ x, x = s[k] := ⟨_, rfl⟩
        rw [← hx] at hbk
        have hdr := drop_cons hbk
        have hxt : (s[k].toNat : Int) = (x.toNat : Int) := by rw [hx]
        have hv5 : v ≤ 100000 := by
          have h := hv1.out
          have h5 : k = 0 ∨ k = 1 ∨ k = 2 ∨ k = 3 ∨ k = 4 ∨ k = 5 := by omega
          rcases h5 with rfl | rfl | rfl | rfl | rfl | rfl <;> simp at h <;> omega
        have hx8 : x.toNat < 256 := x.toNat_lt
        by_cases hdig : 48 ≤ x.toNat ∧ x.toNat ≤ 57
        · have hstep : Hid (digitsF s.data.toList 0 = digitsF (s.data.toList.drop (k + 1)) (10 * v + ((x.toNat : Int) - 48))) := by
            show _ = _
            rw [hdg.out, hdr, digitsF, if_neg (by omega)]
          have t1 : ¬ (s[k].toNat : Int) < 48 := by rw [hxt]; omega
          have t2 : ¬ (57 : Int) < (s[k].toNat : Int) := by rw [hxt]; omega
          have t3 : IntKind.u8.wrap ((s[k].toNat : Int) - 48) = (x.toNat : Int) - 48 := by rw [hxt, IntKind.wrap_u8]; omega
          have hnv : Hid (10 * v + ((x.toNat : Int) - 48) < 10 ^ (k + 1)) := by
            show _ < _
            have h := hv1.out
            rw [Int.pow_succ]
            omega
          have hvc : 0 ≤ 10 * v + ((x.toNat : Int) - 48) := by omega
          have hvd : 10 * v + ((x.toNat : Int) - 48) ≤ 1000100 := by omega
          clear hx hxt hdr hbk
          go_wp2_with fail
          go_roundw
          case rel => exact ⟨k + 1, _, rfl, by go_num, by omega, hvc, hnv, hstep, trivial⟩
          case measure => simp [intOf] <;> omega
        · have HE : Hid (digitsF s.data.toList 0 = -1) := by
            show _ = _
            rw [hdg.out, hdr, digitsF, if_pos (by omega)]
          by_cases h1 : x.toNat < 48
          · have t1 : (s[k].toNat : Int) < 48 := by rw [hxt]; omega
            clear hx hxt hdr hbk
            go_wp2_with fail
            go_ret
            exact ⟨ret_int2 (by rw [HR.out, HE.out]), rfl⟩
          · have t1 : ¬ (s[k].toNat : Int) < 48 := by rw [hxt]; omega
            have t2 : (57 : Int) < (s[k].toNat : Int) := by rw [hxt]; omega
            clear hx hxt hdr hbk
            go_wp2_with fail
            go_ret
            exact ⟨ret_int2 (by rw [HR.out, HE.out]), rfl⟩
      · obtain rfl : k = s.size := by omega
        have HE : Hid (digitsF s.data.toList 0 = v) := by
          show _ = _
          rw [hdg.out, List.drop_of_length_le (by simp)]
          rfl
        go_wp2_with fail
        go_ret
        exact ⟨ret_int2 (by rw [HR.out, HE.out]), rfl⟩
end Go.Proofs.YtdlddkgmjpmenaaGreatDoor
