/-
  The laws of networks: plain laws for their walk; comparisons of equal rows.
-/
import Derived.Test.YtilkgidilhgjeaaDr6
import Derived.Deep.RegionLaw
namespace Go.Proofs.Ytilkgidilhgjeaa
open Go.RowKit
set_option linter.unusedVariables false
set_option linter.unusedSimpArgs false

theorem sameInts_q (w : World) (B C : Nat) (ao bo : Option Addr) (n c d : Nat) (xs : List Int) (ha : Ints w B ao n xs) (hb : Ints w C bo n xs) :
    Calls Try.prog 26 #[.slice ao n c, .slice bo n d] w (RetQ (.bool true) w) := by
  have hn := ha.le
  go_enter Try.func26, Try.ntmps26
  go_wp2
  go_loopw [13] (fun i wr => ∃ k : Nat, k ≤ n ∧ i = .int .i64 k ∧ QD w wr) (fun i _ => n - (intOf i).toNat)
  case atStart => exact ⟨0, Nat.zero_le _, rfl, QD.refl _⟩
  case round =>
    obtain ⟨k, hk, rfl, hq⟩ := hrel
    by_cases hlt : k < n
    · obtain ⟨b1, o1, x, rfl, hb1, hx, hc1⟩ := (ha.below (hq.below B) (Nat.le_refl _)).at hlt
      obtain ⟨b2, o2, y, rfl, hb2, hy, hc2⟩ := (hb.below (hq.below C) (Nat.le_refl _)).at hlt
      obtain rfl : x = y := by rw [hx] at hy; simpa using hy
      clear hx hy
      go_wp2
      go_quiet (fail)
      have hqd := hq.drewN nq
      generalize wr.drewN nq = wd at hqd ⊢
      clear hc1 hc2
      go_wp2_with fail
      go_roundw
      case rel => exact ⟨k + 1, by omega, by go_num, hqd⟩
      case measure => simp [intOf] <;> omega
    · obtain rfl : k = n := by omega
      go_wp2
      go_ret
      exact ⟨rfl, hq⟩
theorem sameLists_same (w : World) (B C : Nat) (ao bo : Option Addr) (n c d : Nat) (rows : List (List Int)) (ha : RowsR w B ao n rows) (hb : RowsR w C bo n rows) :
    Calls Try.prog 34 #[.slice ao n c, .slice bo n d] w (RetQ (.bool true) w) := by
  have hn := ha.2.1
  go_enter Try.func34, Try.ntmps34
  go_wp2
  go_loopw [13] (fun i wr => ∃ k : Nat, k ≤ n ∧ i = .int .i64 k ∧ QD w wr) (fun i _ => n - (intOf i).toNat)
  case atStart => exact ⟨0, Nat.zero_le _, rfl, QD.refl _⟩
  case round =>
    obtain ⟨k, hk, rfl, hq⟩ := hrel
    by_cases hlt : k < n
    · obtain ⟨b1, o1, x, xo, xc, rfl, hb1, hx, hc1, hi1⟩ := (ha.below (hq.below B) (Nat.le_refl _)).at hlt
      obtain ⟨b2, o2, y, yo, yc, rfl, hb2, hy, hc2, hi2⟩ := (hb.below (hq.below C) (Nat.le_refl _)).at hlt
      obtain rfl : x = y := by rw [hx] at hy; simpa using hy
      clear hx hy
      go_wp2
      go_quiet ((go_at_call 26; exact quiet_q (sameInts_q _ _ _ _ _ _ _ _ _ (hi1.drewN _) (hi2.drewN _))))
      have hqd := hq.drewN nq
      generalize wr.drewN nq = wd at hqd ⊢
      clear hc1 hc2
      go_wp2_with fail
      go_roundw
      case rel => exact ⟨k + 1, by omega, by go_num, hqd⟩
      case measure => simp [intOf] <;> omega
    · obtain rfl : k = n := by omega
      go_wp2
      go_ret
      exact ⟨rfl, hq⟩
/-- 'append(out, x, y)' of two ints as one step of a region that draws. -/
theorem step_append_ii {ops : Array Oper} {o : Oper} {a : Act} {w : World} {K : Act → World → Prop} {Q : Exit → Act → World → Prop} {E : Prop} (hgd : o.guard = none) (s x : Operand)
    (ho : o.op = .call { callee := .builtin .append, args := #[s, x], argTypes := #[35, 35] })
    (B : Nat) (ao : Option Addr) (n cap : Nat) (xs : List Int) (u v : Int) (hs : a.eval s = .slice ao n cap) (hx : a.eval x = .slice (some ⟨w.heap.size, 0, none⟩) 2 2)
    (hown : OwnI B w ao n cap xs) (hn : n < 999999990) (hB : B ≤ w.heap.size)
    (hK : ∀ ao' cap' w', OwnI B w' ao' (n + 2) cap' (xs ++ [u, v]) → w.grownBy w' (rowOf ao cap) → K (a.put o.dst (.slice ao' (n + 2) cap')) w') :
    if Region.wanted o (yielded ops a.tmps) = true then Oper.wp Try.prog o a (w.alloc (.cells #[.int .i64 u, .int .i64 v] 3)) K Q else E := by
  rw [if_pos (by simp [Region.wanted, hgd])]
  obtain ⟨i, hi1, hi2, hi3, hi4⟩ := info_parts int_info
  obtain ⟨ao', cap', w', hr, h2, h3⟩ := run_append_any (P := Try.prog) (w.alloc (.cells #[.int .i64 u, .int .i64 v] 3)) 35 o.type 3 i (.int .i64 0) 1 8 Try.underlying35 hi1 hi2 hi3 hi4 rfl (by decide) B ao n cap (xs.map (Value.int .i64)) (hown.2.2.alloc _) _ _ 2 2 [.int .i64 u, .int .i64 v] rfl (cellsAt_new w [.int .i64 u, .int .i64 v] 3) (by simp [Value.oneCell']) (by unfold maxLen; omega) (by omega) (by simp; omega)
  unfold Oper.wp execOp
  simp only [ho, resolve, invoke, builtin, Sem.run_bind, Sem.run_pure, Result.andThen_ok, List.map_toArray, List.map_cons, List.map_nil, hs, hx, hr]
  exact hK _ _ _ ⟨by simp [hown.1], by omega, by simpa using h2⟩ (grownBy_old h3)
theorem btOfL_01 (n k : Nat) : ∀ v ∈ btOfL n k, 0 ≤ v ∧ v ≤ 1 := by
  induction k generalizing n with
  | zero => intro v hv; simp [btOfL] at hv
  | succ k ih =>
    intro v hv
    simp only [btOfL, List.mem_cons] at hv
    rcases hv with rfl | hv
    · omega
    · exact ih _ v hv
/-- What the answers of a network say of one another. -/
theorem net_back {n : Int} {xs x y u : List Int} {len : Nat} {ok so one three : Bool} (hl : xs.length = len * 2) (h1 : sortWithF n xs x = (y, ok)) (h2 : sortsAllF n xs = (so, one)) (h3 : firstUnsortedF n xs = (u, three)) :
    (one = true → (so == three) = false) ∧ (ok = true → so = true → sortedB y = true) ∧ (three = true → ∃ z, sortWithF n xs u = (z, true) ∧ (z.length : Int) = n ∧ sortedB z = false ∧ 1 ≤ n) := by
  cases hnet : isNetF n xs
  · have e1 : sortWithF n xs x = ([], false) := by simp [sortWithF, hnet]
    have e2 : sortsAllF n xs = (false, false) := by simp [sortsAllF, hnet]
    have e3 : firstUnsortedF n xs = ([], false) := by simp [firstUnsortedF, hnet]
    rw [e1] at h1
    rw [e2] at h2
    rw [e3] at h3
    simp only [Prod.mk.injEq] at h1 h2 h3
    obtain ⟨_, rfl⟩ := h1
    obtain ⟨_, rfl⟩ := h2
    obtain ⟨_, rfl⟩ := h3
    refine ⟨?_, ?_, ?_⟩ <;> intro h <;> cases h
  · obtain ⟨f1, f2, f3, f4⟩ := isNet_facts hl hnet
    obtain ⟨n, rfl⟩ := Int.eq_ofNat_of_zero_le (show 0 ≤ n by omega)
    have e2 : sortsAllF (n : Int) xs = ((firstTo (steps xs) n (2 ^ n)).isNone, true) := by unfold sortsAllF; rw [if_pos hnet]; rfl
    have e3 : firstUnsortedF (n : Int) xs = (firstL n (firstTo (steps xs) n (2 ^ n)), (firstTo (steps xs) n (2 ^ n)).isSome) := by unfold firstUnsortedF; rw [if_pos hnet]; rfl
    rw [e2] at h2
    rw [e3] at h3
    simp only [Prod.mk.injEq] at h2 h3
    obtain ⟨rfl, rfl⟩ := h2
    obtain ⟨rfl, rfl⟩ := h3
    cases hf : firstTo (steps xs) n (2 ^ n) with
    | none =>
      refine ⟨fun _ => rfl, fun hok _ => ?_, fun h => by cases h⟩
      subst hok
      unfold sortWithF at h1
      split at h1
      · rename_i hc
        simp only [Prod.mk.injEq, and_true] at h1
        rw [← h1]
        simp only [Bool.and_eq_true, decide_eq_true_eq] at hc
        exact zero_one f4 hf (by omega)
      · simp at h1
    | some k =>
      refine ⟨fun _ => rfl, fun _ h => (by cases h), fun _ => ?_⟩
      have hu : unsB (steps xs) n k = true := List.find?_some hf
      have hall : allIn (-1000000) 1000000 (btOfL k n) = true := allIn_iff.2 fun v hv => by have := btOfL_01 k n v hv; omega
      refine ⟨(steps xs).foldl exch (btOfL k n), ?_, ?_, by simpa [unsB] using hu, f1⟩
      · show sortWithF (n : Int) xs (btOfL k n) = _
        unfold sortWithF
        rw [if_pos]
        simp [hnet, btOfL_length, hall]
      · rw [foldl_length, btOfL_length]
theorem fallB_sorted {o : List Int} (h : sortedB o = false) : fallB o o.length = true := by rw [fallB_all, h]; rfl
theorem layersF_back {n : Int} {xs : List Int} {len : Nat} (hl : xs.length = len * 2) {rows : List (List Int)} {ok : Bool} (h : layersF n xs = (rows, ok)) :
    (ok = true → tot rows = len) ∧ tot rows ≤ 60 ∧ ∀ (j : Nat) (r : List Int), rows[j]? = some r → RowOK (steps xs) r := by
  unfold layersF at h
  split at h
  · rename_i hnet
    obtain ⟨f1, f2, f3, f4⟩ := isNet_facts hl hnet
    obtain ⟨m, rfl⟩ := Int.eq_ofNat_of_zero_le (show 0 ≤ n by omega)
    simp only [Prod.mk.injEq] at h
    obtain ⟨rfl, rfl⟩ := h
    have hi := layTo_inv (n := m) f4 (steps xs).length (Nat.le_refl _)
    have h2 := steps_length len xs hl
    have h3 : tot (layTo (steps xs) m (steps xs).length).1 = len := by rw [hi.sum, h2]
    exact ⟨fun _ => h3, by show tot (layTo (steps xs) m (steps xs).length).1 ≤ 60; omega, fun j r hj => (hi.row j r hj).1⟩
  · simp only [Prod.mk.injEq] at h
    obtain ⟨rfl, rfl⟩ := h
    refine ⟨?_, ?_, ?_⟩
    · intro h; cases h
    · simp [tot]
    · intro j r hj; simp at hj
end Go.Proofs.Ytilkgidilhgjeaa
