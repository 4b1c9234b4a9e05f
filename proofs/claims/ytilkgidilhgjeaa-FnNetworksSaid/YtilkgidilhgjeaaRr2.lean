/-
  Rows of rows in the laws: comparisons of equal rows, marks, and marks that are held.
-/
import Derived.Test.YtilkgidilhgjeaaRr1
namespace Go.Proofs.Ytilkgidilhgjeaa
open Go.RowKit
set_option linter.unusedVariables false
set_option linter.unusedSimpArgs false

/-- Nothing but draws. -/
def QD (w w' : World) : Prop := ∃ m, w' = w.drewN m
theorem QD.refl (w : World) : QD w w := ⟨0, rfl⟩
theorem QD.drewN {w w' : World} (h : QD w w') (n : Nat) : QD w (w'.drewN n) := by
  obtain ⟨m, rfl⟩ := h
  exact ⟨m + n, by rw [World.drewN_drewN]⟩
theorem QD.below {w w' : World} (h : QD w w') (B : Nat) : Below B w w' := by
  obtain ⟨m, rfl⟩ := h
  exact bdrewN (Below.refl _ _) _
def RetQ (v : Value) (w : World) (e : Ending) (w' : World) : Prop := e = .returned v ∧ QD w w'
theorem eqIntS_q (w : World) (B C : Nat) (ao bo : Option Addr) (n c d : Nat) (xs : List Int) (ha : Ints w B ao n xs) (hb : Ints w C bo n xs) :
    Calls Try.prog 51 #[.slice ao n c, .slice bo n d] w (RetQ (.bool true) w) := by
  have hn := ha.le
  go_enter Try.func51, Try.ntmps51
  go_wp2
  go_loopw [5] (fun i wr => ∃ k : Nat, k ≤ n ∧ i = .int .i64 k ∧ QD w wr) (fun i _ => n - (intOf i).toNat)
  case atStart => exact ⟨0, Nat.zero_le _, rfl, QD.refl _⟩
  case round =>
    obtain ⟨k, hk, rfl, hq⟩ := hrel
    by_cases hlt : k < n
    · obtain ⟨b1, o1, x, rfl, hb1, hx, hc1⟩ := (ha.below (hq.below B) (Nat.le_refl _)).at hlt
      obtain ⟨b2, o2, y, rfl, hb2, hy, hc2⟩ := (hb.below (hq.below C) (Nat.le_refl _)).at hlt
      obtain rfl : x = y := by rw [hx] at hy; simpa using hy
      clear hx hy
      go_wp2
      go_quiet (fail)
      have hqd := hq.drewN nq
      generalize wr.drewN nq = wd at hqd ⊢
      clear hc1 hc2
      go_wp2_with fail
      go_roundw
      case rel => exact ⟨k + 1, by omega, by go_num, hqd⟩
      case measure => simp [intOf] <;> omega
    · obtain rfl : k = n := by omega
      go_wp2
      go_ret
      exact ⟨rfl, hq⟩
theorem quiet_q {P : Program} {f : FuncId} {args : Array Value} {w : World} {n : Nat} {v : Value} (h : Calls P f args (w.drewN n) (RetQ v (w.drewN n))) : Calls P f args (w.drewN n) fun e w'' => e = .returned v ∧ ∃ m, w'' = w.drewN m :=
  Calls.quiet_of (h.mono fun _ _ ⟨he, m, hm⟩ => ⟨he, m, hm⟩)
theorem eqIntSS_same (w : World) (B C : Nat) (ao bo : Option Addr) (n c d : Nat) (rows : List (List Int)) (ha : RowsR w B ao n rows) (hb : RowsR w C bo n rows) :
    Calls Try.prog 12 #[.slice ao n c, .slice bo n d] w (RetQ (.bool true) w) := by
  have hn := ha.2.1
  go_enter Try.func12, Try.ntmps12
  go_wp2
  go_loopw [5] (fun i wr => ∃ k : Nat, k ≤ n ∧ i = .int .i64 k ∧ QD w wr) (fun i _ => n - (intOf i).toNat)
  case atStart => exact ⟨0, Nat.zero_le _, rfl, QD.refl _⟩
  case round =>
    obtain ⟨k, hk, rfl, hq⟩ := hrel
    by_cases hlt : k < n
    · obtain ⟨b1, o1, x, xo, xc, rfl, hb1, hx, hc1, hi1⟩ := (ha.below (hq.below B) (Nat.le_refl _)).at hlt
      obtain ⟨b2, o2, y, yo, yc, rfl, hb2, hy, hc2, hi2⟩ := (hb.below (hq.below C) (Nat.le_refl _)).at hlt
      obtain rfl : x = y := by rw [hx] at hy; simpa using hy
      clear hx hy
      go_wp2
      go_quiet ((go_at_call 51; exact quiet_q (eqIntS_q _ _ _ _ _ _ _ _ _ (hi1.drewN _) (hi2.drewN _))))
      have hqd := hq.drewN nq
      generalize wr.drewN nq = wd at hqd ⊢
      clear hc1 hc2
      go_wp2_with fail
      go_roundw
      case rel => exact ⟨k + 1, by omega, by go_num, hqd⟩
      case measure => simp [intOf] <;> omega
    · obtain rfl : k = n := by omega
      go_wp2
      go_ret
      exact ⟨rfl, hq⟩
def tot (rows : List (List Int)) : Nat := (rows.map List.length).sum
theorem tot_step {rows : List (List Int)} {k : Nat} {l : List Int} (h : rows[k]? = some l) : tot (rows.take (k + 1)) = tot (rows.take k) + l.length := by
  rw [List.take_add_one, h]; simp [tot]
theorem tot_take_le (rows : List (List Int)) (k : Nat) : tot (rows.take k) ≤ tot rows := by
  have : tot rows = tot (rows.take k) + tot (rows.drop k) := by
    unfold tot
    rw [← List.sum_append, ← List.map_append, List.take_append_drop]
  omega
def mkR (q : Int) : List (List Int) → List (List Int)
  | [] => []
  | l :: r => marks q l.length :: mkR (q + (l.length : Int)) r
theorem mkR_length : ∀ (rows : List (List Int)) (q : Int), (mkR q rows).length = rows.length
  | [], _ => rfl
  | l :: r, q => by rw [mkR, List.length_cons, mkR_length r, List.length_cons]
theorem mkR_get : ∀ (rows : List (List Int)) (q : Int) (k : Nat) (l : List Int), rows[k]? = some l → (mkR q rows)[k]? = some (marks (q + (tot (rows.take k) : Nat)) l.length)
  | [], q, k, l, h => by simp at h
  | l0 :: r, q, 0, l, h => by simp at h; subst h; simp [mkR, tot]
  | l0 :: r, q, k + 1, l, h => by
    rw [mkR, List.getElem?_cons_succ, mkR_get r _ k l (by simpa using h)]
    congr 2
    simp [tot]
    omega
theorem mkR_tot : ∀ (rows : List (List Int)) (q : Int) (k : Nat), tot ((mkR q rows).take k) = tot (rows.take k)
  | [], q, k => by simp [mkR]
  | l0 :: r, q, 0 => by simp [tot]
  | l0 :: r, q, k + 1 => by
    have ih := mkR_tot r (q + (l0.length : Int)) k
    rw [mkR, List.take_succ_cons, List.take_succ_cons]
    unfold tot at ih ⊢
    rw [List.map_cons, List.sum_cons, List.map_cons, List.sum_cons, ih, marks_length]
/-- The first k rows are marked. -/
def mkTo (q : Int) (rows : List (List Int)) (k : Nat) : List (List Int) := (mkR q rows).take k ++ rows.drop k
theorem mkTo_zero (q : Int) (rows : List (List Int)) : mkTo q rows 0 = rows := by simp [mkTo]
theorem mkTo_all (q : Int) {rows : List (List Int)} {n : Nat} (h : rows.length = n) : mkTo q rows n = mkR q rows := by
  unfold mkTo
  rw [List.take_of_length_le (by rw [mkR_length]; omega), List.drop_of_length_le (by omega), List.append_nil]
theorem mkTo_get (q : Int) {rows : List (List Int)} {k : Nat} {l : List Int} (h : rows[k]? = some l) : (mkTo q rows k)[k]? = some l := by
  have hk : k < rows.length := (List.getElem?_eq_some_iff.1 h).1
  unfold mkTo
  rw [List.getElem?_append_right (by rw [List.length_take, mkR_length]; omega), List.length_take, mkR_length, show k - min k rows.length = 0 by omega, List.getElem?_drop]
  simpa using h
theorem mkTo_set (q : Int) {rows : List (List Int)} {k : Nat} {l : List Int} (h : rows[k]? = some l) : (mkTo q rows k).set k (marks (q + (tot (rows.take k) : Nat)) l.length) = mkTo q rows (k + 1) := by
  have hk : k < rows.length := (List.getElem?_eq_some_iff.1 h).1
  unfold mkTo
  rw [List.set_append_right _ _ (by rw [List.length_take, mkR_length]; omega), List.length_take, mkR_length, show k - min k rows.length = 0 by omega, List.take_add_one, mkR_get rows q k l h, List.drop_eq_getElem_cons hk, List.set_cons_zero, List.append_assoc]
  rfl
def RetMark (q : Int) (B : Nat) (ao : Option Addr) (n cap : Nat) (hs : List (Option Addr × Nat)) (rows : List (List Int)) (w : World) (e : Ending) (w' : World) : Prop := e = .returned (.int .i64 (q + (tot rows : Nat))) ∧ RR B w' ao n cap hs (mkR q rows) ∧ Below B w w'
theorem markIntSS_any (w : World) (B : Nat) (ao : Option Addr) (n cap : Nat) (hs : List (Option Addr × Nat)) (rows : List (List Int)) (q : Int) (h : RR B w ao n cap hs rows) (hB : B ≤ w.heap.size) (hq0 : 0 ≤ q) (hq1 : q ≤ 1000000) (ht : tot rows ≤ 1000000) :
    Calls Try.prog 15 #[.slice ao n cap, .int .i64 q] w (RetMark q B ao n cap hs rows w) := by
  have hn := h.le
  have hlen := Lib.hid h.len
  have hlen2 := Lib.hid h.hlen
  go_enter Try.func15, Try.ntmps15
  go_wp2
  go_loopw [1, 5] (fun x1 i wr => ∃ k : Nat, k ≤ n ∧ i = .int .i64 k ∧ x1 = .int .i64 (q + (tot (rows.take k) : Nat)) ∧ RR B wr ao n cap hs (mkTo q rows k) ∧ Below B w wr) (fun _ i _ => n - (intOf i).toNat)
  case atStart => exact ⟨0, Nat.zero_le _, rfl, by simp [tot], by rw [mkTo_zero]; exact h, Below.refl _ _⟩
  case round =>
    obtain ⟨k, hk, rfl, rfl, hr, hb⟩ := hrel
    by_cases hlt : k < n
    · obtain ⟨l, hl⟩ : ∃ l, rows[k]? = some l := ⟨_, List.getElem?_eq_getElem (by rw [hlen.out]; exact hlt)⟩
      have hl2 := mkTo_get q hl
      obtain ⟨g, l', x, rfl, q1, q2, hl3, hx, hc, hf, hp, hrow, hro⟩ := hr.at hlt
      obtain rfl : l = l' := by rw [hl2] at hl3; simpa using hl3
      have HS := Lib.hid (tot_step hl)
      have HM := Lib.hid (mkTo_set q hl)
      have htk := tot_take_le rows k
      obtain ⟨t, hT⟩ : ∃ t, t = tot (rows.take k) := ⟨_, rfl⟩
      rw [← hT] at HS HM htk ⊢
      have hbs := hb.size
      clear hl3 hT hrow
      have HL2 := Lib.hid hl2
      have HX := Lib.hid hx
      have HRO := Lib.hid hro
      clear hl hl2 hx hro hf
      go_wp2_with fail
      refine (markIntS_any _ _ _ _ _ _ _ hp (by omega) (by omega)).mono ?_
      rintro e w1 ⟨rfl, ho1, hg1⟩
      have hml : (marks (q + (t : Nat)) l.length).length = l.length := marks_length _ _
      have hr1 := hr.wrote HL2.out HX.out hml (by rw [hml]; exact ho1) hg1
      rw [HM.out] at hr1
      have hb1 : Below B w w1 := hb.grown hg1 (by omega) (fun p hp' => (hp.rowLt p hp').1)
      clear hml
      go_wp2_with fail
      go_roundw
      case rel => exact ⟨k + 1, by omega, by go_num, by rw [HS.out]; congr 1; omega, hr1, hb1⟩
      case measure => simp [intOf] <;> omega
    · obtain rfl : k = n := by omega
      go_wp2_with fail
      go_ret
      have h1 := hr
      rw [mkTo_all q hlen.out] at h1
      exact ⟨ret_int (by rw [List.take_of_length_le (by rw [hlen.out]; exact Nat.le_refl _)]), h1, hb⟩
theorem heldIntSS_any (w : World) (B : Nat) (ao : Option Addr) (n c : Nat) (rows : List (List Int)) (q : Int) (h : RowsR w B ao n (mkR q rows)) (hq0 : 0 ≤ q) (hq1 : q ≤ 1000000) (ht : tot rows ≤ 1000000) :
    Calls Try.prog 16 #[.slice ao n c, .int .i64 q] w fun e w' => e = .returned (.int .i64 (q + (tot rows : Nat))) ∧ w = w' := by
  have hn := h.2.1
  have hlen : Hid (rows.length = n) := by show _ = _; rw [← mkR_length rows q]; exact h.1
  go_enter Try.func16, Try.ntmps16
  go_wp2
  go_loop [1, 5] (fun x1 i => ∃ k : Nat, k ≤ n ∧ i = .int .i64 k ∧ x1 = .int .i64 (q + (tot (rows.take k) : Nat))) (fun _ i => n - (intOf i).toNat)
  case atStart => exact ⟨0, Nat.zero_le _, rfl, by simp [tot]⟩
  case round =>
    obtain ⟨k, hk, rfl, rfl⟩ := hrel
    by_cases hlt : k < n
    · obtain ⟨l, hl⟩ : ∃ l, rows[k]? = some l := ⟨_, List.getElem?_eq_getElem (by rw [hlen.out]; exact hlt)⟩
      have hl2 := mkR_get rows q k l hl
      obtain ⟨b, off, l', xo, xc, rfl, q1, hl3, hc, hp⟩ := h.at hlt
      have HS := Lib.hid (tot_step hl)
      have htk := tot_take_le rows k
      obtain ⟨t, hT⟩ : ∃ t, t = tot (rows.take k) := ⟨_, rfl⟩
      rw [← hT] at HS htk hl2 ⊢
      obtain rfl : marks (q + (t : Nat)) l.length = l' := by rw [hl2] at hl3; simpa using hl3
      have HML := Lib.hid (marks_length (q + (t : Nat)) l.length)
      have HHD := Lib.hid (marks_held (q + (t : Nat)) l.length)
      clear hl3 hT hl2 hl
      rw [HML.out] at hc hp
      go_wp2_with fail
      refine (heldIntS_any _ _ _ _ _ _ _ hp (by omega) (by omega) HHD.out).mono ?_
      rintro e w' ⟨rfl, rfl⟩
      have hpos : ¬ q + (t : Nat) + (l.length : Int) < 0 := by omega
      go_wp2_with fail
      go_round
      case rel => exact ⟨k + 1, by omega, by go_num, by rw [HS.out]; congr 1; omega⟩
      case measure => simp [intOf] <;> omega
    · obtain rfl : k = n := by omega
      go_wp2_with fail
      go_ret
      exact ⟨ret_int (by rw [List.take_of_length_le (by rw [hlen.out]; exact Nat.le_refl _)]), rfl⟩
end Go.Proofs.Ytilkgidilhgjeaa
