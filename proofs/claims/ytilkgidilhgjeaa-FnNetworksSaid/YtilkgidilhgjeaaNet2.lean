/-
  The network of merge exchange.
-/
import Derived.Test.YtilkgidilhgjeaaNet1
namespace Go.Proofs.Ytilkgidilhgjeaa
open Go.RowKit

def mRow (p r d i : Nat) : List Int := (List.range i).flatMap fun (j : Nat) => if j &&& p = r then [(j : Int), (j : Int) + (d : Int)] else []
theorem mRow_yes {p r d i : Nat} (h : i &&& p = r) : mRow p r d (i + 1) = mRow p r d i ++ [(i : Int), (i : Int) + (d : Int)] := by simp [mRow, List.range_succ, h]
theorem mRow_no {p r d i : Nat} (h : ¬ i &&& p = r) : mRow p r d (i + 1) = mRow p r d i := by simp [mRow, List.range_succ, h]
def restQ (n p : Nat) : Nat → Nat → Nat → Nat → List Int
  | 0, _, _, _ => []
  | f + 1, q, r, d => mRow p r d (n - d) ++ if q = p then [] else restQ n p f (q / 2) p (q - p)
def restP (n top : Nat) : Nat → Nat → List Int
  | 0, _ => []
  | f + 1, p => if p = 0 then [] else restQ n p 10 top 0 p ++ restP n top f (p / 2)
theorem restP_zero (n top f : Nat) : restP n top f 0 = [] := by cases f <;> simp [restP]
def topF (n : Nat) : Nat := if n ≤ 2 then 1 else if n ≤ 4 then 2 else if n ≤ 8 then 4 else 8
def mergeL (n : Nat) : List Int := if n ≤ 1 then [] else restP n (topF n) 10 (topF n)
def mergeF (n : Int) : List Int × Bool := if inB n 1 12 = true then (mergeL n.toNat, true) else ([], false)
theorem and_int (i p : Nat) (hi : i ≤ 100) (hp : p ≤ 100) : bits .and .i64 (i : Int) (p : Int) = ((i &&& p : Nat) : Int) := i64_and_nat i p (by omega) (by omega)
theorem merge_len : ∀ n : Fin 13, (mergeL n).length ≤ 120 := by decide

theorem soMerge_any (n : Nat) (h1 : 1 ≤ n) (h12 : n ≤ 12) (w : World) : Calls Try.prog 103 #[.int .i64 n] w (RetF 2 62 (mergeL n) w) := by
  go_enter Try.func103, Try.ntmps103
  go_wp2_with fail
  go_loop [4] (fun top => ∃ t : Nat, (t = 1 ∨ t = 2 ∨ t = 4 ∨ t = 8) ∧ (t = 1 ∨ t < n) ∧ t ≤ topF n ∧ top = .int .i64 t) (fun top => 16 - (intOf top).toNat)
  case atStart => exact ⟨1, by simp, by simp, by unfold topF; split <;> (try split) <;> (try split) <;> omega, rfl⟩
  case round =>
    obtain ⟨t, h3, h4, h5, rfl⟩ := hrel
    by_cases hlt : 2 * t < n
    · have h6 : 2 * t ≤ topF n := by unfold topF at h5 ⊢; split <;> (try split) <;> (try split) <;> omega
      have h7 : t ≤ 4 := by omega
      have h8 : 2 * t = 2 ∨ 2 * t = 4 ∨ 2 * t = 8 := by omega
      clear h5
      go_wp2_with fail
      go_round
      case rel => exact ⟨2 * t, by omega, by omega, h6, by congr 1; omega⟩
      case measure => simp [intOf] <;> omega
    · have ht : t = topF n := by unfold topF at h5 ⊢; split <;> (try split) <;> (try split) <;> omega
      have HT := Lib.hid ht
      clear h5 ht
      by_cases hn1 : n = 1
      · subst hn1
        go_wp2_with fail
        refine wp_loop_rounds 1 ?_
        rw [rounds_succ]
        go_wp2_with fail
        go_ret
        exact ⟨none, 0, 0, rfl, by simpa [mergeL] using OwnF.nil _ _ _, Below.refl _ _⟩
      have h2n : 2 ≤ n := by omega
      have h1n : (1 : Int) < n := by omega
      go_wp2_with fail
      go_loopw [3, 5] (fun out p wr => ∃ (pp f m cap : Nat) (co : Option Addr) (acc : List Int), (pp = 0 ∨ pp = 1 ∨ pp = 2 ∨ pp = 4 ∨ pp = 8) ∧ pp ≤ t ∧ pp ≤ f ∧ m + 1000 * pp ≤ 8000 ∧ p = .int .i64 pp ∧ out = .slice co m cap ∧ OwnF 2 62 w.heap.size wr co m cap acc ∧ Hid (acc ++ restP n t f pp = restP n t 10 t) ∧ Below w.heap.size w wr) (fun _ p _ => (intOf p).toNat)
      case atStart => exact ⟨t, 10, 0, 0, _, [], by omega, by omega, by omega, by omega, rfl, rfl, OwnF.nil _ _ _, by simp [Hid], Below.refl _ _⟩
      case round =>
        obtain ⟨pp, f, m, cap, co, acc, p1, p2, p3, p4, rfl, rfl, hout, hacc, hbel⟩ := hrel
        by_cases hp0 : pp = 0
        · subst hp0
          go_wp2_with fail
          go_ret
          have e : acc = mergeL n := by
            have := hacc.out
            rw [restP_zero, List.append_nil] at this
            rw [this, mergeL, if_neg (by omega), HT.out]
          exact ⟨_, _, _, rfl, by rw [← e]; exact hout, hbel⟩
        · obtain ⟨f, rfl⟩ := Nat.exists_eq_add_of_le (show 1 ≤ f by omega)
          have hacc2 := hacc.out
          rw [Nat.add_comm 1 f, restP, if_neg hp0, ← List.append_assoc] at hacc2
          have HACC := Lib.hid hacc2
          clear hacc hacc2
          have hp1 : 1 ≤ pp := by omega
          go_wp2_with fail
          go_loopw [3, 6, 7, 8] (fun out q r d wr => ∃ (qq rr dd g m cap : Nat) (co : Option Addr) (acc2 : List Int), (qq = 1 ∨ qq = 2 ∨ qq = 4 ∨ qq = 8) ∧ pp ≤ qq ∧ qq ≤ g ∧ dd ≤ 8 ∧ rr ≤ 8 ∧ m + 12 * qq + 1000 * pp ≤ 8096 ∧ q = .int .i64 qq ∧ r = .int .i64 rr ∧ d = .int .i64 dd ∧ out = .slice co m cap ∧ OwnF 2 62 w.heap.size wr co m cap acc2 ∧ Hid (acc2 ++ restQ n pp g qq rr dd = acc ++ restQ n pp 10 t 0 pp) ∧ Below w.heap.size w wr) (fun _ q _ _ _ => (intOf q).toNat)
          case atStart => exact ⟨t, 0, pp, 10, m, cap, co, acc, by omega, by omega, by omega, by omega, by omega, by omega, rfl, by simp, rfl, rfl, hout, by simp [Hid], hbel⟩
          case round =>
            obtain ⟨qq, rr, dd, g, m, cap, co, acc2, q1, q2, q3, q4, q5, q6, rfl, rfl, rfl, rfl, hout, hacc2, hbel⟩ := hrel
            obtain ⟨g, rfl⟩ := Nat.exists_eq_add_of_le (show 1 ≤ g by omega)
            have hacc3 := hacc2.out
            rw [Nat.add_comm 1 g, restQ, ← List.append_assoc] at hacc3
            have HACC2 := Lib.hid hacc3
            clear hacc2 hacc3
            go_wp2_with fail
            go_loopw [3, 9] (fun out i wr => ∃ (ii m2 cap : Nat) (co : Option Addr), ii ≤ n - dd ∧ m2 ≤ m + ii ∧ i = .int .i64 ii ∧ out = .slice co m2 cap ∧ OwnF 2 62 w.heap.size wr co m2 cap (acc2 ++ mRow pp rr dd ii) ∧ Below w.heap.size w wr) (fun _ i _ => n - dd - (intOf i).toNat)
            case atStart => exact ⟨0, m, cap, co, by omega, by omega, rfl, rfl, by simpa [mRow] using hout, hbel⟩
            case round =>
              obtain ⟨ii, m2, cap, co, i1, i2, rfl, rfl, hout, hbel⟩ := hrel
              by_cases hi : ii < n - dd
              · obtain ⟨x, hx⟩ : ∃ x, x = ii &&& pp := ⟨_, rfl⟩
                have hand := and_int ii pp (by omega) (by omega)
                rw [← hx] at hand
                have hlt1 : (ii : Int) < (n : Int) - dd := by omega
                by_cases he : x = rr
                · subst he
                  have HX := Lib.hid hx
                  clear hx
                  go_wp2_with (at_builtin; refine wpList_append_Step rfl _ _ rfl w.heap.size _ _ _ _ _ _ rfl rfl hout (by omega) hbel.size ?_; intro bo' cap'' w4 hown4 hg4)
                  have hbel4 := below_append hbel hout.2.2 hg4 hbel.size
                  rw [List.append_assoc, ← mRow_yes HX.out.symm] at hown4
                  go_roundw
                  case rel => exact ⟨ii + 1, m2 + 1, cap'', bo', by omega, by omega, by go_num, rfl, hown4, hbel4⟩
                  case measure => simp [intOf] <;> omega
                · have hne : ((x : Int) == (rr : Int)) = false := by simp; omega
                  have HX := Lib.hid hx
                  have HE := Lib.hid he
                  clear hx he
                  go_wp2_with fail
                  go_roundw
                  case rel => exact ⟨ii + 1, m2, cap, co, by omega, by omega, by go_num, rfl, by rw [mRow_no (by rw [← HX.out]; exact HE.out)]; exact hout, hbel⟩
                  case measure => simp [intOf] <;> omega
              · obtain rfl : ii = n - dd := by omega
                have hge : ¬ ((n - dd : Nat) : Int) < (n : Int) - dd := by omega
                by_cases hqp : qq = pp
                · subst hqp
                  have hacc4 := HACC2.out
                  rw [if_pos rfl, List.append_nil] at hacc4
                  rw [hacc4] at hout
                  clear hacc4
                  have hh : qq / 2 = 0 ∨ qq / 2 = 1 ∨ qq / 2 = 2 ∨ qq / 2 = 4 ∨ qq / 2 = 8 := by omega
                  go_wp2_with fail
                  go_roundw
                  case rel => exact ⟨qq / 2, f, m2, cap, co, _, hh, by omega, by omega, by omega, by congr 1, rfl, hout, HACC.out, hbel⟩
                  case measure => simp [intOf] <;> omega
                · have hq : ¬ (qq : Int) = pp := by omega
                  have hacc4 := HACC2.out
                  rw [if_neg hqp] at hacc4
                  have HACC4 := Lib.hid hacc4
                  clear hacc4
                  go_wp2_with fail
                  go_roundw
                  case rel => exact ⟨qq / 2, pp, qq - pp, g, m2, cap, co, _, by omega, by omega, by omega, by omega, by omega, by omega, by congr 1, rfl, by congr 1; omega, rfl, hout, HACC4.out, hbel⟩
                  case measure => simp [intOf] <;> omega
end Go.Proofs.Ytilkgidilhgjeaa
